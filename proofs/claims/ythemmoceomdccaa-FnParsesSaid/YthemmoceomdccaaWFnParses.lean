/- Walks of the functions that the law FnParses reaches: each says what its function computes. No condition. -/
import Derived.Test.YthemmoceomdccaaProg
import Derived.Test.YthemmoceomdccaaLibM
import Derived.Test.YthemmoceomdccaaPlA
import Derived.Test.YthemmoceomdccaaLibN
import Derived.Test.YthemmoceomdccaaLibO
import Derived.Test.YthemmoceomdccaaLibG2
import Derived.Test.YthemmoceomdccaaPlG
import Derived.Test.YthemmoceomdccaaPlX
import Derived.Test.YthemmoceomdccaaLibR
import Derived.Test.YthemmoceomdccaaPlD
import Derived.Test.YthemmoceomdccaaPlB
import Derived.Test.YthemmoceomdccaaPlH
import Derived.Test.YthemmoceomdccaaPlI
import Derived.Test.YthemmoceomdccaaPlJ
import Derived.Test.YthemmoceomdccaaPlE
import Derived.Test.YthemmoceomdccaaPlC
import Derived.Test.YthemmoceomdccaaPlW
import Derived.Test.YthemmoceomdccaaPlU
import Derived.Test.YthemmoceomdccaaPlY
import Derived.Test.YthemmoceomdccaaPlR
import Derived.Test.YthemmoceomdccaaPlDq
import Derived.Test.YthemmoceomdccaaPlRa
import Derived.Test.YthemmoceomdccaaPlPa
import Derived.Test.YthemmoceomdccaaPlPb
import Derived.Test.YthemmoceomdccaaPlPc
import Derived.Test.YthemmoceomdccaaPlPd
import Derived.Test.YthemmoceomdccaaPlPe
import Derived.Test.YthemmoceomdccaaPlPf
import Derived.Test.YthemmoceomdccaaPlPg
import Derived.Test.YthemmoceomdccaaWFnParsesd
namespace Go.Proofs.Ythemmoceomdccaa
open Go Go.WX Go.Proofs
set_option linter.unusedSimpArgs false
set_option linter.unusedVariables false

theorem c_impl_ParseCost_y {w : World} {a0 : Int} {a1 : Int} {va2 : Value} {xa2 : List R4} {vw : Value} {xs : List Int} (ha2 : Rd ER w va2 xa2) (hw : Rd EI w vw xs) (hcn : canB a0 a1 xa2 xs = true) : Calls Try.prog 26 #[.agg #[.int .i64 a0, .int .i64 a1, va2], vw] w (Ret1 (RQt (.tuple #[.int .i64 (leastC xa2 xs 0 xs.length 0), .bool true]) w)) := by
  have h := c_impl_ParseCost ha2 hw (a0 := a0) (a1 := a1)
  rw [onI_yes hcn, hcn] at h; exact h
theorem c_impl_ParseTree_y {w : World} {a0 : Int} {a1 : Int} {va2 : Value} {xa2 : List R4} {vw : Value} {xs : List Int} (ha2 : Rd ER w va2 xa2) (hw : Rd EI w vw xs) (hcn : canB a0 a1 xa2 xs = true) : Calls Try.prog 27 #[.agg #[.int .i64 a0, .int .i64 a1, va2], vw] w (Ret1 (fun v w' => Ext w w' ∧ ∃ u og_u, v = .tuple #[u, .int .i64 (onI (decide (0 ≤ (leastC xa2 xs 0 xs.length 0))) (leastC xa2 xs 0 xs.length 0)), .bool (decide (0 ≤ (leastC xa2 xs 0 xs.length 0)))] ∧ Osl VI w' og_u u (onT (decide (0 ≤ (leastC xa2 xs 0 xs.length 0))) (treeL xa2 xs 0 xs.length 0)) ∧ Lo w og_u)) := by
  have h := c_impl_ParseTree ha2 hw (a0 := a0) (a1 := a1)
  rw [canP_dec hcn] at h; exact h
theorem c_impl_CountTrees_y {w : World} {a0 : Int} {a1 : Int} {va2 : Value} {xa2 : List R4} {vw : Value} {xs : List Int} (ha2 : Rd ER w va2 xa2) (hw : Rd EI w vw xs) (hcn : canB a0 a1 xa2 xs = true) : Calls Try.prog 28 #[.agg #[.int .i64 a0, .int .i64 a1, va2], vw] w (Ret1 (fun v w' => Ext w w' ∧ ∃ (nt : Int) (ok : Bool), v = .tuple #[.int .i64 nt, .bool ok] ∧ (ok = true → (0 < nt ↔ 0 ≤ (leastC xa2 xs 0 xs.length 0))))) := by
  have h := c_impl_CountTrees ha2 hw (a0 := a0) (a1 := a1)
  refine Calls.ret h (fun v w9 h9 => ?_)
  obtain ⟨hv9, hX⟩ := h9
  exact ⟨hX, _, _, hv9, fun hk => by rw [onI_yes hk]; exact cnt_iff hcn⟩
theorem c_impl_ChartOf_y {w : World} {a0 : Int} {a1 : Int} {va2 : Value} {xa2 : List R4} {vw : Value} {xs : List Int} (ha2 : Rd ER w va2 xa2) (hw : Rd EI w vw xs) (hcn : canB a0 a1 xa2 xs = true) : Calls Try.prog 29 #[.agg #[.int .i64 a0, .int .i64 a1, va2], vw] w (Ret1 (fun v w' => Ext w w' ∧ ∃ u og_u, v = .tuple #[u, .bool true] ∧ Osl VI w' og_u u (alS xa2 xs a0 xs.length) ∧ Lo w og_u)) := by
  have h := c_impl_ChartOf ha2 hw (a0 := a0) (a1 := a1)
  rw [onT_yes hcn, hcn] at h; exact h
theorem c_impl_BackGrammar_y {w : World} {a0 : Int} {a1 : Int} {va2 : Value} {xa2 : List R4}  (ha2 : Rd ER w va2 xa2) (hgv : gramV a0 a1 xa2) : Calls Try.prog 30 #[.agg #[.int .i64 a0, .int .i64 a1, va2]] w (Ret1 (fun v w' => Ext w w' ∧ ∃ u2 og_u2, v = .tuple #[.agg #[.int .i64 a0, .int .i64 a1, u2], .bool true] ∧ Osn 4 gR w' og_u2 u2 (xa2.map backR) ∧ Lo w og_u2)) := by
  have h := c_impl_BackGrammar ha2 (a0 := a0) (a1 := a1)
  have hg9 := gramB_yes hgv
  simp only [onT_yes hg9, onI_yes hg9] at h
  rw [hg9] at h; exact h
theorem c_impl_EitherGrammar_y {w : World} {a0 : Int} {a1 : Int} {va2 : Value} {xa2 : List R4} {y0 : Int} {y1 : Int} {vy2 : Value} {xy2 : List R4}  (ha2 : Rd ER w va2 xa2) (hy2 : Rd ER w vy2 xy2) : Calls Try.prog 32 #[.agg #[.int .i64 a0, .int .i64 a1, va2], .agg #[.int .i64 y0, .int .i64 y1, vy2]] w (Ret1 (fun v w' => Ext w w' ∧ ∃ (em el : Int) (er : List R4) (ok : Bool) (u2 : Value) (og_u2 : Option Nat), v = .tuple #[.agg #[.int .i64 em, .int .i64 el, u2], .bool ok] ∧ (ok = true → gramV em el er ∧ el = a1) ∧ (ok = true → ∀ ws : List Int, leastC er ws 0 ws.length 0 = lessR (leastC xa2 ws 0 ws.length 0) (leastC xy2 ws 0 ws.length 0)) ∧ Osn 4 gR w' og_u2 u2 (er) ∧ Lo w og_u2)) := by
  have h := c_impl_EitherGrammar ha2 hy2 (a0 := a0) (a1 := a1) (y0 := y0) (y1 := y1)
  refine Calls.ret h (fun v w9 h9 => ?_)
  obtain ⟨hX, u2, o2, hv9, p1, p2⟩ := h9
  exact ⟨hX, _, _, _, _, u2, o2, hv9, fun hk => (either_v hk).1, fun hk => (either_v hk).2, p1, p2⟩
theorem c_impl_LeastCosts_y {w : World} {a0 : Int} {a1 : Int} {va2 : Value} {xa2 : List R4}  (ha2 : Rd ER w va2 xa2) (hgv : gramV a0 a1 xa2) : Calls Try.prog 34 #[.agg #[.int .i64 a0, .int .i64 a1, va2]] w (Ret1 (fun v w' => Ext w w' ∧ ∃ u og_u, v = .tuple #[u, .bool true] ∧ Osl VI w' og_u u ((allC a0 xa2).2) ∧ Lo w og_u)) := by
  have h := c_impl_LeastCosts ha2 (a0 := a0) (a1 := a1)
  have hg9 := gramB_yes hgv
  simp only [onT_yes hg9, onI_yes hg9] at h
  rw [hg9] at h; exact h
theorem c_impl_CheapWord_y {w : World} {a0 : Int} {a1 : Int} {va2 : Value} {xa2 : List R4}  (ha2 : Rd ER w va2 xa2) : Calls Try.prog 35 #[.agg #[.int .i64 a0, .int .i64 a1, va2]] w (Ret1 (fun v w' => Ext w w' ∧ ∃ (cw : List Int) (pr : Int) (ok : Bool) (u : Value) (og_u : Option Nat), v = .tuple #[u, .int .i64 pr, .bool ok] ∧ (ok = true → canB a0 a1 xa2 cw = true ∧ leastC xa2 cw 0 cw.length 0 = pr ∧ pr = (allC a0 xa2).2.getD (0 : Int).toNat 0) ∧ Osl VI w' og_u u (cw) ∧ Lo w og_u)) := by
  have h := c_impl_CheapWord ha2 (a0 := a0) (a1 := a1)
  refine Calls.ret h (fun v w9 h9 => ?_)
  obtain ⟨hX, u2, o2, hv9, p1, p2⟩ := h9
  exact ⟨hX, _, _, _, u2, o2, hv9, fun hk => cheap_v hk, p1, p2⟩
theorem c_impl_UsefulRules_y {w : World} {a0 : Int} {a1 : Int} {va2 : Value} {xa2 : List R4}  (ha2 : Rd ER w va2 xa2) (hgv : gramV a0 a1 xa2) : Calls Try.prog 36 #[.agg #[.int .i64 a0, .int .i64 a1, va2]] w (Ret1 (fun v w' => Ext w w' ∧ ∃ u og_u, v = .tuple #[u, .bool true] ∧ Osl VI w' og_u u (usefL a0 xa2) ∧ Lo w og_u)) := by
  have h := c_impl_UsefulRules ha2 (a0 := a0) (a1 := a1)
  have hg9 := gramB_yes hgv
  simp only [onT_yes hg9, onI_yes hg9] at h
  rw [hg9] at h; exact h
theorem c_impl_GrammarOf_y {w : World} {a0 : Int} {a1 : Int} {va2 : Value} {xa2 : List Int} {va3 : Value} {xa3 : List Bool}  (ha2 : Rd EI w va2 xa2) (ha3 : Rd EB w va3 xa3) (hok : okG a0 a1 xa2 xa3 = true) : Calls Try.prog 39 #[.agg #[.int .i64 a0, .int .i64 a1, va2, va3]] w (Ret1 (fun v w' => Ext w w' ∧ ∃ u2 og_u2, v = .tuple #[.agg #[.int .i64 (a0 + a1), .int .i64 a1, u2], .bool true] ∧ Osn 4 gR w' og_u2 u2 (allG a0 a1 xa2 xa3) ∧ Lo w og_u2)) := by
  have h := c_impl_GrammarOf ha2 ha3 (a0 := a0) (a1 := a1)
  simp only [onT_yes hok, onI_yes hok] at h
  rw [hok] at h; exact h
theorem c_impl_CountRead_y {w : World} {a0 : Int} {a1 : Int} {va2 : Value} {xa2 : List R4} {n : Int} (ha2 : Rd ER w va2 xa2) (hgv : gramV a0 a1 xa2) (hn5 : 1 ≤ n ∧ n ≤ 5) : Calls Try.prog 41 #[.agg #[.int .i64 a0, .int .i64 a1, va2], .int .i64 n] w (Ret1 (RQt (.tuple #[.int .i64 (cntW xa2 (wordsL a1 n.toNat) (wordsL a1 n.toNat).length), .bool true]) w)) := by
  have h := c_impl_CountRead ha2 (a0 := a0) (a1 := a1) (n := n)
  have hy := (canN_y hgv hn5).symm
  rw [onI_yes hy, hy] at h; exact h
theorem c_impl_ParsesShared_y {w : World} {a0 : Int} {a1 : Int} {va2 : Value} {xa2 : List R4} {vb : Value} {wss : List (List Int)} {wk : Int} {yss : List Int} (ha2 : Rd ER w va2 xa2) (hb : Rd (ESl EI) w vb wss) (hV : psB a0 a1 xa2 wss wk = true) (hW : (wss.map fun w => leastC xa2 w 0 w.length 0) = yss) : Calls Try.prog 14 #[.agg #[.int .i64 a0, .int .i64 a1, va2], vb, .int .i64 wk] w (Ret1 (fun v w' => Ext w w' ∧ ∃ u og_u, v = .tuple #[u, .bool true] ∧ Osl VI w' og_u u (yss) ∧ Lo w og_u)) := by
  have h := c_impl_ParsesShared ha2 hb (a0 := a0) (a1 := a1) (wk := wk)
  rw [onT_yes hV, hV, hW] at h; exact h
set_option maxHeartbeats 8000000 in
set_option maxRecDepth 100000 in
theorem c_laws_FnParses {w : World} {va vb : Value} {xs ys : List Int} (ha : Rd EU8 w va xs) (hb : Rd EU8 w vb ys) (hg : ∀ x ∈ xs, 0 ≤ x ∧ x ≤ 255) (hgb : ∀ x ∈ ys, 0 ≤ x ∧ x ≤ 255) : Calls Try.prog 4 #[va, vb] w (Ret1 (RQt (.bool true) w)) := by
  have hB : Ext w w := Ext.refl w
  have hla := ha.leI; have hlb := hb.leI; have hr40 := at8_rng (i := (40 : Int).toNat) (n := 2) hgb (by decide); have hr41 := at8_rng (i := (41 : Int).toNat) (n := 3) hgb (by decide); have hr42 := at8_rng (i := (42 : Int).toNat) (n := 3) hgb (by decide); have hr43 := at8_rng (i := (43 : Int).toNat) (n := 6) hgb (by decide); have hr44 := at8_rng (i := (44 : Int).toNat) (n := 4) hgb (by decide); have hr45 := at8_rng (i := (45 : Int).toNat) (n := 4) hgb (by decide); have hr46 := at8_rng (i := (46 : Int).toNat) (n := 8) hgb (by decide)
  refine callsOf (vs := [_, _]) Try.func4 rfl Try.ntmps4 rfl rfl ?_
  refine CW.seq ?_
  refine CW.reg ?_
  refine WL.asg rfl rfl ?_
  refine WL.nilS ?_
  refine CW.seq ?_
  refine CW.seq ?_
  refine CW.reg ?_
  refine WL.mv rfl rfl ?_
  refine WL.mv rfl rfl ?_
  refine WL.op rfl (OpK.callR rfl T.cf22 rfl (c_laws_r8Long (by first | assumption | exact Rd.up (by assumption) hB | exact Osl.rd (by assumption) | exact Osn.rdR (by assumption)) (by first | assumption | exact Rd.up (by assumption) hB | exact Osl.rd (by assumption) | exact Osn.rdR (by assumption))) (fun w1 hXw1 => ?_))
  have hB := hB.trans hXw1
  refine WL.nilS ?_
  refine CW.cond rfl (fun hc1 => ?_) (fun hc1 => ?_)
  · skip
    try simp only [nq] at hc1
    refine CW.seq ?_
    refine CW.reg ?_
    refine WL.asg rfl rfl ?_
    refine WL.nilS ?_
    refine CW.ret ?_
    refine RQ.then ?_
    refine RQ.r1 rfl ?_
    refine ⟨?_, hB⟩
    first | rfl | (exfalso; revert hc1; simp; done) | (exfalso; revert hc1; simp; omega) | (exfalso; omega) | first | rfl | exact bT (by omega) | exact bF (by omega) | exact bD (by omega) | exact iE (by omega) | (simp_all; done) | (simp_all; omega) | (simp_all; intros; omega)
  try simp only [nq] at hc1
  refine CW.skipS ?_
  refine CW.seq ?_
  refine CW.reg ?_
  refine WL.mv rfl rfl ?_
  refine WL.op rfl (OpK.callR rfl T.cf23 rfl (c_laws_r8At (by first | assumption | exact Rd.up (by assumption) hB | exact Osl.rd (by assumption) | exact Osn.rdR (by assumption)) (by first | assumption | omega | (simp only [marks_len]; omega)) (by first | assumption | omega | (simp only [marks_len]; omega))) (fun w2 hXw2 => ?_))
  have hB := hB.trans hXw2
  refine WL.pure rfl rfl rfl (PV.add rfl rfl (by constructor <;> omega)) ?_
  refine WL.asg rfl rfl ?_
  refine WL.nilS ?_
  refine CW.seq ?_
  refine CW.reg ?_
  refine WL.mv rfl rfl ?_
  refine WL.mv rfl rfl ?_
  refine WL.op rfl (OpK.callR rfl T.cf23 rfl (c_laws_r8At (by first | assumption | exact Rd.up (by assumption) hB | exact Osl.rd (by assumption) | exact Osn.rdR (by assumption)) (by first | assumption | omega | (simp only [marks_len]; omega)) (by first | assumption | omega | (simp only [marks_len]; omega))) (fun w3 hXw3 => ?_))
  have hB := hB.trans hXw3
  refine WL.pure rfl rfl rfl (PV.add rfl rfl (by constructor <;> omega)) ?_
  refine WL.mv rfl rfl ?_
  refine WL.op rfl (OpK.call rfl T.cf24 rfl (c_spec_R8Grammar hB (by first | assumption | exact Rd.up (by assumption) hB | exact Osl.rd (by assumption) | exact Osn.rdR (by assumption)) (by first | assumption | omega | (simp only [marks_len]; omega)) (by first | assumption | omega | (simp only [marks_len]; omega)) (by first | assumption | omega | (simp only [marks_len]; omega))) (fun rv1 w4 hR => ?_))
  obtain ⟨hUC1, rs2, v3, og3, rfl, hm4, hm5, ho3, hq3⟩ := hR
  have hl3 := Lo.up hq3 hB
  have hB := hB.loop hUC1 trivial
  refine WL.op rfl (OpK.alloc rfl T.zv33 rfl (fun b6 w5 hXw5 hb6 hge6 => ?_))
  have hl6 := Lo.new hB hge6
  have hd3_6 := Dj.new ho3.ltO hge6
  have hB := hB.trans hXw5
  have ho3 := ho3.up hXw5
  refine WL.op rfl (OpK.storeA T.sz33 rfl rfl rfl rfl (by simp [Value.oneCell'] <;> first | done | (repeat' apply And.intro) <;> first | rfl | exact Osl.oneCell (by assumption) | exact Osn.oneCell (by assumption) | exact Rd.oneCell (by assumption) | exact Rd.oneCell (NL.rd (by assumption)) | assumption) hb6 (fun w6 hXw6 hb6 => ?_))
  have hB := hB.updL hXw6 hl6
  have ho3 := ho3.updD hXw6 hd3_6
  refine WL.nilS ?_
  refine CW.seq ?_
  refine CW.reg ?_
  refine WL.mv rfl rfl ?_
  refine WL.mv rfl rfl ?_
  refine WL.op rfl (OpK.callR rfl T.cf23 rfl (c_laws_r8At (by first | assumption | exact Rd.up (by assumption) hB | exact Osl.rd (by assumption) | exact Osn.rdR (by assumption)) (by first | assumption | omega | (simp only [marks_len]; omega)) (by first | assumption | omega | (simp only [marks_len]; omega))) (fun w7 hXw7 => ?_))
  have hB := hB.trans hXw7
  have ho3 := ho3.up hXw7
  have hb6 := hb6.up hXw7
  refine WL.pure rfl rfl rfl (PV.add rfl rfl (by constructor <;> omega)) ?_
  refine WL.mv rfl rfl ?_
  refine WL.op rfl (OpK.call rfl T.cf24 rfl (c_spec_R8Grammar hB (by first | assumption | exact Rd.up (by assumption) hB | exact Osl.rd (by assumption) | exact Osn.rdR (by assumption)) (by first | assumption | omega | (simp only [marks_len]; omega)) (by first | assumption | omega | (simp only [marks_len]; omega)) (by first | assumption | omega | (simp only [marks_len]; omega))) (fun rv2 w8 hR => ?_))
  obtain ⟨hUC7, rs8, v9, og9, rfl, hm10, hm11, ho9, hq9⟩ := hR
  have hl9 := Lo.up hq9 hB
  have hd3_9 := Dj.lo ho3.ltO hq9
  have hd6_9 := Dj.lo hb6.ltO hq9
  have ho3 := ho3.loop hUC7 trivial
  have hb6 := hb6.loop hUC7 trivial
  have hB := hB.loop hUC7 trivial
  refine WL.op rfl (OpK.alloc rfl T.zv33 rfl (fun b12 w9 hXw9 hb12 hge12 => ?_))
  have hl12 := Lo.new hB hge12
  have hd3_12 := Dj.new ho3.ltO hge12
  have hd6_12 := Dj.new hb6.ltO hge12
  have hd9_12 := Dj.new ho9.ltO hge12
  have hB := hB.trans hXw9
  have ho3 := ho3.up hXw9
  have hb6 := hb6.up hXw9
  have ho9 := ho9.up hXw9
  refine WL.op rfl (OpK.storeA T.sz33 rfl rfl rfl rfl (by simp [Value.oneCell'] <;> first | done | (repeat' apply And.intro) <;> first | rfl | exact Osl.oneCell (by assumption) | exact Osn.oneCell (by assumption) | exact Rd.oneCell (by assumption) | exact Rd.oneCell (NL.rd (by assumption)) | assumption) hb12 (fun w10 hXw10 hb12 => ?_))
  have hB := hB.updL hXw10 hl12
  have ho3 := ho3.updD hXw10 hd3_12
  have hb6 := hb6.updD hXw10 hd6_12
  have ho9 := ho9.updD hXw10 hd9_12
  refine WL.nilS ?_
  refine CW.seq ?_
  refine CW.reg ?_
  refine WL.mv rfl rfl ?_
  refine WL.mv rfl rfl ?_
  refine WL.op rfl (OpK.callR rfl T.cf23 rfl (c_laws_r8At (by first | assumption | exact Rd.up (by assumption) hB | exact Osl.rd (by assumption) | exact Osn.rdR (by assumption)) (by first | assumption | omega | (simp only [marks_len]; omega)) (by first | assumption | omega | (simp only [marks_len]; omega))) (fun w11 hXw11 => ?_))
  have hB := hB.trans hXw11
  have ho3 := ho3.up hXw11
  have hb6 := hb6.up hXw11
  have ho9 := ho9.up hXw11
  have hb12 := hb12.up hXw11
  refine WL.pure rfl rfl rfl (PV.add rfl rfl (by constructor <;> omega)) ?_
  refine WL.mv rfl rfl ?_
  refine WL.op rfl (OpK.call rfl T.cf25 rfl (c_spec_R8Word hB (by first | assumption | exact Rd.up (by assumption) hB | exact Osl.rd (by assumption) | exact Osn.rdR (by assumption)) (by first | assumption | omega | (simp only [marks_len]; omega)) (by first | assumption | omega | (simp only [marks_len]; omega)) (by first | assumption | omega | (simp only [marks_len]; omega))) (fun rv3 w12 hR => ?_))
  obtain ⟨hUC13, ws14, v15, og15, rfl, hm16, hm17, ho15, hq15⟩ := hR
  have hl15 := Lo.up hq15 hB
  have hd3_15 := Dj.lo ho3.ltO hq15
  have hd6_15 := Dj.lo hb6.ltO hq15
  have hd9_15 := Dj.lo ho9.ltO hq15
  have hd12_15 := Dj.lo hb12.ltO hq15
  have ho3 := ho3.loop hUC13 trivial
  have hb6 := hb6.loop hUC13 trivial
  have ho9 := ho9.loop hUC13 trivial
  have hb12 := hb12.loop hUC13 trivial
  have hB := hB.loop hUC13 trivial
  refine WL.asg rfl rfl ?_
  refine WL.nilS ?_
  refine CW.seq ?_
  refine CW.reg ?_
  have hwl : 1 ≤ ws14.length ∧ ws14.length ≤ 6 := (by omega); have hwb : isWordB ws14 (1 + at8 ys (Int.toNat 40) 2) = true := word_dr (N := (1 + at8 ys (Int.toNat 43) 6)) (by omega) (by omega) hm16 hm17; have hcg : canB (1 + at8 ys (Int.toNat 41) 3) (1 + at8 ys (Int.toNat 40) 2) rs2 ws14 = true := can_of hm4 hwb hwl.1; have hch : canB (1 + at8 ys (Int.toNat 42) 3) (1 + at8 ys (Int.toNat 40) 2) rs8 ws14 = true := can_of hm10 hwb hwl.1; have hcb : canB (1 + at8 ys (Int.toNat 41) 3) (1 + at8 ys (Int.toNat 40) 2) (rs2.map backR) ws14.reverse = true := canB_back hcg; have hlbk : leastC (rs2.map backR) ws14.reverse 0 ws14.reverse.length 0 = (leastC rs2 ws14 0 ws14.length 0) := leastC_back hm4; have hafl := alS_full rs2 ws14 (1 + at8 ys (Int.toNat 41) 3); have hix9 : ((ws14.length : Int) - 1).toNat = ws14.length - 1 := (by omega); have hcbt := chart_bit (rs := rs2) (wd := ws14) hm4 hwl.1; rw [← hix9] at hcbt; have htri := tri_bd (k := ws14.length) (by omega); have hllo := leastC_lo (rs := rs2) (wd := ws14) (i := 0) (j := ws14.length) (a := 0) hm4
  refine WL.pure rfl rfl rfl (PV.loadA T.ag33 rfl hb6.cells (Ext.refl _) rfl) ?_
  refine WL.mv rfl rfl ?_
  refine WL.op rfl (OpK.callR rfl T.cf26 rfl (c_impl_ParseCost_y (Osn.rdR ho3) (Osl.rd ho15) (by assumption)) (fun w13 hXw13 => ?_))
  have hB := hB.trans hXw13
  have ho3 := ho3.up hXw13
  have hb6 := hb6.up hXw13
  have ho9 := ho9.up hXw13
  have hb12 := hb12.up hXw13
  have ho15 := ho15.up hXw13
  refine WL.mv rfl rfl ?_
  refine WL.pure rfl rfl rfl (PV.extract rfl rfl) ?_
  refine WL.pure rfl rfl rfl (PV.extract rfl rfl) ?_
  refine WL.asg rfl rfl ?_
  refine WL.asg rfl rfl ?_
  refine WL.nilS ?_
  refine CW.seq ?_
  refine CW.reg ?_
  refine WL.pure rfl rfl rfl (PV.loadA T.ag33 rfl hb6.cells (Ext.refl _) rfl) ?_
  refine WL.mv rfl rfl ?_
  refine WL.op rfl (OpK.call rfl T.cf27 rfl (c_impl_ParseTree_y (Osn.rdR ho3) (Osl.rd ho15) (by assumption)) (fun rv4 w14 hR => ?_))
  obtain ⟨hXw14, v18, og18, rfl, ho18, hq18⟩ := hR
  have hl18 := Lo.up hq18 hB
  have hd3_18 := Dj.lo ho3.ltO hq18
  have hd6_18 := Dj.lo hb6.ltO hq18
  have hd9_18 := Dj.lo ho9.ltO hq18
  have hd12_18 := Dj.lo hb12.ltO hq18
  have hd15_18 := Dj.lo ho15.ltO hq18
  have hB := hB.trans hXw14
  have ho3 := ho3.up hXw14
  have hb6 := hb6.up hXw14
  have ho9 := ho9.up hXw14
  have hb12 := hb12.up hXw14
  have ho15 := ho15.up hXw14
  refine WL.mv rfl rfl ?_
  refine WL.pure rfl rfl rfl (PV.extract rfl rfl) ?_
  refine WL.pure rfl rfl rfl (PV.extract rfl rfl) ?_
  refine WL.pure rfl rfl rfl (PV.extract rfl rfl) ?_
  refine WL.asg rfl rfl ?_
  refine WL.asg rfl rfl ?_
  refine WL.asg rfl rfl ?_
  refine WL.nilS ?_
  refine CW.seq ?_
  refine CW.reg ?_
  refine WL.pure rfl rfl rfl (PV.loadA T.ag33 rfl hb6.cells (Ext.refl _) rfl) ?_
  refine WL.mv rfl rfl ?_
  refine WL.op rfl (OpK.call rfl T.cf28 rfl (c_impl_CountTrees_y (Osn.rdR ho3) (Osl.rd ho15) (by assumption)) (fun rv5 w15 hR => ?_))
  obtain ⟨hXw15, nt19, ok20, rfl, hm21⟩ := hR
  have hB := hB.trans hXw15
  have ho3 := ho3.up hXw15
  have hb6 := hb6.up hXw15
  have ho9 := ho9.up hXw15
  have hb12 := hb12.up hXw15
  have ho15 := ho15.up hXw15
  have ho18 := ho18.up hXw15
  refine WL.mv rfl rfl ?_
  refine WL.pure rfl rfl rfl (PV.extract rfl rfl) ?_
  refine WL.pure rfl rfl rfl (PV.extract rfl rfl) ?_
  refine WL.asg rfl rfl ?_
  refine WL.asg rfl rfl ?_
  refine WL.nilS ?_
  refine CW.seq ?_
  refine CW.reg ?_
  refine WL.pure rfl rfl rfl (PV.loadA T.ag33 rfl hb6.cells (Ext.refl _) rfl) ?_
  refine WL.mv rfl rfl ?_
  refine WL.op rfl (OpK.call rfl T.cf29 rfl (c_impl_ChartOf_y (Osn.rdR ho3) (Osl.rd ho15) (by assumption)) (fun rv6 w16 hR => ?_))
  obtain ⟨hXw16, v22, og22, rfl, ho22, hq22⟩ := hR
  have hl22 := Lo.up hq22 hB
  have hd3_22 := Dj.lo ho3.ltO hq22
  have hd6_22 := Dj.lo hb6.ltO hq22
  have hd9_22 := Dj.lo ho9.ltO hq22
  have hd12_22 := Dj.lo hb12.ltO hq22
  have hd15_22 := Dj.lo ho15.ltO hq22
  have hd18_22 := Dj.lo ho18.ltO hq22
  have hB := hB.trans hXw16
  have ho3 := ho3.up hXw16
  have hb6 := hb6.up hXw16
  have ho9 := ho9.up hXw16
  have hb12 := hb12.up hXw16
  have ho15 := ho15.up hXw16
  have ho18 := ho18.up hXw16
  refine WL.mv rfl rfl ?_
  refine WL.pure rfl rfl rfl (PV.extract rfl rfl) ?_
  refine WL.pure rfl rfl rfl (PV.extract rfl rfl) ?_
  refine WL.asg rfl rfl ?_
  refine WL.asg rfl rfl ?_
  refine WL.nilS ?_
  refine CW.seq ?_
  refine CW.reg ?_
  refine WL.pure rfl rfl rfl (PV.loadA T.ag33 rfl hb6.cells (Ext.refl _) rfl) ?_
  refine WL.op rfl (OpK.call rfl T.cf30 rfl (c_impl_BackGrammar_y (Osn.rdR ho3) (by assumption)) (fun rv7 w17 hR => ?_))
  obtain ⟨hXw17, v23, og23, rfl, ho23, hq23⟩ := hR
  have hl23 := Lo.up hq23 hB
  have hd3_23 := Dj.lo ho3.ltO hq23
  have hd6_23 := Dj.lo hb6.ltO hq23
  have hd9_23 := Dj.lo ho9.ltO hq23
  have hd12_23 := Dj.lo hb12.ltO hq23
  have hd15_23 := Dj.lo ho15.ltO hq23
  have hd18_23 := Dj.lo ho18.ltO hq23
  have hd22_23 := Dj.lo ho22.ltO hq23
  have hB := hB.trans hXw17
  have ho3 := ho3.up hXw17
  have hb6 := hb6.up hXw17
  have ho9 := ho9.up hXw17
  have hb12 := hb12.up hXw17
  have ho15 := ho15.up hXw17
  have ho18 := ho18.up hXw17
  have ho22 := ho22.up hXw17
  refine WL.mv rfl rfl ?_
  refine WL.pure rfl rfl rfl (PV.extract rfl rfl) ?_
  refine WL.pure rfl rfl rfl (PV.extract rfl rfl) ?_
  refine WL.op rfl (OpK.alloc rfl T.zv33 rfl (fun b24 w18 hXw18 hb24 hge24 => ?_))
  have hl24 := Lo.new hB hge24
  have hd3_24 := Dj.new ho3.ltO hge24
  have hd6_24 := Dj.new hb6.ltO hge24
  have hd9_24 := Dj.new ho9.ltO hge24
  have hd12_24 := Dj.new hb12.ltO hge24
  have hd15_24 := Dj.new ho15.ltO hge24
  have hd18_24 := Dj.new ho18.ltO hge24
  have hd22_24 := Dj.new ho22.ltO hge24
  have hd23_24 := Dj.new ho23.ltO hge24
  have hB := hB.trans hXw18
  have ho3 := ho3.up hXw18
  have hb6 := hb6.up hXw18
  have ho9 := ho9.up hXw18
  have hb12 := hb12.up hXw18
  have ho15 := ho15.up hXw18
  have ho18 := ho18.up hXw18
  have ho22 := ho22.up hXw18
  have ho23 := ho23.up hXw18
  refine WL.op rfl (OpK.storeA T.sz33 rfl rfl rfl rfl (by simp [Value.oneCell'] <;> first | done | (repeat' apply And.intro) <;> first | rfl | exact Osl.oneCell (by assumption) | exact Osn.oneCell (by assumption) | exact Rd.oneCell (by assumption) | exact Rd.oneCell (NL.rd (by assumption)) | assumption) hb24 (fun w19 hXw19 hb24 => ?_))
  have hB := hB.updL hXw19 hl24
  have ho3 := ho3.updD hXw19 hd3_24
  have hb6 := hb6.updD hXw19 hd6_24
  have ho9 := ho9.updD hXw19 hd9_24
  have hb12 := hb12.updD hXw19 hd12_24
  have ho15 := ho15.updD hXw19 hd15_24
  have ho18 := ho18.updD hXw19 hd18_24
  have ho22 := ho22.updD hXw19 hd22_24
  have ho23 := ho23.updD hXw19 hd23_24
  refine WL.asg rfl rfl ?_
  refine WL.nilS ?_
  refine CW.seq ?_
  refine CW.draw T.mixed (by kernel_rfl) (fun _ _ _ _ _ h => h) (fun w8 w9 => Upd none w8 w9) 9 (.take 0 (.take 1 (.must 2 (.must 3 (.take 4 (.take 5 (.take 6 (.take 7 (.take 8 .done))))))))) (by kernel_rfl) (fun w20 hXd => ?_)
  have hB := hB.trans hXd
  have ho3 := ho3.up hXd
  have hb6 := hb6.up hXd
  have ho9 := ho9.up hXd
  have hb12 := hb12.up hXd
  have ho15 := ho15.up hXd
  have ho18 := ho18.up hXd
  have ho22 := ho22.up hXd
  have ho23 := ho23.up hXd
  have hb24 := hb24.up hXd
  have hBr := hB
  have hS : Upd none w20 w20 := Ext.toUpd (Ext.refl _)
  refine HP.take rfl rfl rfl rfl hS (fun wS hS1 => PV.loadA T.ag33 rfl (Bx.cells (Bx.updD (by assumption) hS1 (Dj.nlR _))) (Ext.refl _) rfl) ?_
  refine HP.take rfl rfl rfl rfl hS (fun wS hS1 => PV.move rfl) ?_
  refine HP.must rfl rfl (OpK.call rfl T.cf31 rfl (c_laws_r8Back (Osl.rd ho15) (by first | assumption | omega | (simp only [marks_len]; omega))) (fun rv8 w21 hR => ?_))
  obtain ⟨hXw21, v25, og25, rfl, ho25, hq25⟩ := hR
  have hl25 := Lo.up hq25 hB
  have hv25 := Lo.up hq25 hS
  have hd3_25 := Dj.lo ho3.ltO hq25
  have hd6_25 := Dj.lo hb6.ltO hq25
  have hd9_25 := Dj.lo ho9.ltO hq25
  have hd12_25 := Dj.lo hb12.ltO hq25
  have hd15_25 := Dj.lo ho15.ltO hq25
  have hd18_25 := Dj.lo ho18.ltO hq25
  have hd22_25 := Dj.lo ho22.ltO hq25
  have hd23_25 := Dj.lo ho23.ltO hq25
  have hd24_25 := Dj.lo hb24.ltO hq25
  refine ⟨Upd.trans hS hXw21, ?_⟩
  have hS := Upd.trans hS hXw21
  have hB := hB.trans hXw21
  have ho3 := ho3.up hXw21
  have hb6 := hb6.up hXw21
  have ho9 := ho9.up hXw21
  have hb12 := hb12.up hXw21
  have ho15 := ho15.up hXw21
  have ho18 := ho18.up hXw21
  have ho22 := ho22.up hXw21
  have ho23 := ho23.up hXw21
  have hb24 := hb24.up hXw21
  refine HP.must rfl rfl (OpK.callR rfl T.cf26 rfl (c_impl_ParseCost_y (Osn.rdR ho23) (Osl.rd ho25) (by assumption)) (fun w22 hXw22 => ?_))
  refine ⟨Upd.trans hS hXw22, ?_⟩
  have hS := Upd.trans hS hXw22
  have hB := hB.trans hXw22
  have ho3 := ho3.up hXw22
  have hb6 := hb6.up hXw22
  have ho9 := ho9.up hXw22
  have hb12 := hb12.up hXw22
  have ho15 := ho15.up hXw22
  have ho18 := ho18.up hXw22
  have ho22 := ho22.up hXw22
  have ho23 := ho23.up hXw22
  have hb24 := hb24.up hXw22
  have ho25 := ho25.up hXw22
  refine HP.take rfl rfl rfl rfl hS (fun wS hS1 => PV.move rfl) ?_
  refine HP.take rfl rfl rfl rfl hS (fun wS hS1 => PV.extract rfl rfl) ?_
  refine HP.take rfl rfl rfl rfl hS (fun wS hS1 => PV.extract rfl rfl) ?_
  refine HP.take rfl rfl rfl rfl hS (fun wS hS1 => PV.assign rfl) ?_
  refine HP.take rfl rfl rfl rfl hS (fun wS hS1 => PV.assign rfl) ?_
  refine HP.doneS ?_
  refine CW.seq ?_
  refine CW.reg ?_
  refine WL.pure rfl rfl rfl (PV.loadA T.ag33 rfl hb12.cells (Ext.refl _) rfl) ?_
  refine WL.mv rfl rfl ?_
  refine WL.op rfl (OpK.callR rfl T.cf26 rfl (c_impl_ParseCost_y (Osn.rdR ho9) (Osl.rd ho15) (by assumption)) (fun w23 hXw23 => ?_))
  have hB := hB.trans hXw23
  have ho3 := ho3.up hXw23
  have hb6 := hb6.up hXw23
  have ho9 := ho9.up hXw23
  have hb12 := hb12.up hXw23
  have ho15 := ho15.up hXw23
  have ho18 := ho18.up hXw23
  have ho22 := ho22.up hXw23
  have ho23 := ho23.up hXw23
  have hb24 := hb24.up hXw23
  have ho25 := ho25.up hXw23
  refine WL.mv rfl rfl ?_
  refine WL.pure rfl rfl rfl (PV.extract rfl rfl) ?_
  refine WL.pure rfl rfl rfl (PV.extract rfl rfl) ?_
  refine WL.asg rfl rfl ?_
  refine WL.asg rfl rfl ?_
  refine WL.nilS ?_
  refine CW.seq ?_
  refine CW.reg ?_
  refine WL.mv rfl rfl ?_
  refine WL.pure rfl rfl rfl ((PV.lenOs rfl ho15 T.sl28)) ?_
  refine WL.asg rfl rfl ?_
  refine WL.nilS ?_
  refine CW.seq ?_
  refine CW.cut (σk := [(0, _), (1, _), (5, _), (6, _), (7, _), (8, _), (9, _), (11, _), (12, _), (13, _), (22, _), (24, _)]) (fun ρ wz => ∃ (_ : Unit), ρ = [(186, .bool false)] ∧ Ext w23 wz ∧ True) ⟨rfl, rfl, rfl, rfl, rfl, rfl, rfl, rfl, rfl, rfl, rfl, rfl, trivial⟩ ?_ ?_
  · skip
    have hB0 := Ext.refl w23
    have hBc := Ext.refl w23
    refine CW.reg ?_
    refine WL.mv rfl rfl ?_
    refine WL.pure rfl rfl rfl (PV.not rfl) ?_
    refine WL.mv rfl rfl ?_
    refine WL.pureG rfl rfl rfl rfl rfl (PV.move rfl) ?_
    refine WL.pureG rfl rfl rfl rfl rfl (PV.not rfl) ?_
    refine WL.pure rfl rfl rfl (PV.pickF rfl rfl) ?_
    refine WL.mv rfl rfl ?_
    refine WL.pureG rfl rfl rfl rfl rfl (PV.move rfl) ?_
    refine WL.pureG rfl rfl rfl rfl rfl (PV.not rfl) ?_
    refine WL.pure rfl rfl rfl (PV.pickF rfl rfl) ?_
    refine WL.mv rfl rfl ?_
    refine WL.pureG rfl rfl rfl rfl rfl (PV.move rfl) ?_
    refine WL.pureG rfl rfl rfl rfl rfl (PV.not rfl) ?_
    refine WL.pure rfl rfl rfl (PV.pickF rfl rfl) ?_
    refine WL.mv rfl rfl ?_
    refine WL.pureG rfl rfl rfl rfl rfl (PV.move rfl) ?_
    refine WL.pureG rfl rfl rfl rfl rfl (PV.not rfl) ?_
    refine WL.pure rfl rfl rfl (PV.pickF rfl rfl) ?_
    refine WL.mv rfl rfl ?_
    refine WL.pureG rfl rfl rfl rfl rfl (PV.move rfl) ?_
    refine WL.pureG rfl rfl rfl rfl rfl (PV.move rfl) ?_
    refine WL.pureG rfl rfl rfl rfl rfl (PV.geq rfl rfl) ?_
    refine WL.pureG rfl rfl rfl rfl rfl (PV.neqB T.bl4 rfl rfl) ?_
    refine WL.pure rfl rfl rfl (PV.pickF rfl rfl) ?_
    refine WL.mv rfl rfl ?_
    refine WL.split (t := 150) rfl (fun hc2 => ?_) (fun hc2 => ?_)
    · skip
      try simp only [nq] at hc2
      exfalso; first | omega | (revert hc2; simp; done) | (revert hc2; simp; omega)
    try simp only [nq] at hc2
    refine WL.pureG rfl rfl rfl rfl rfl (PV.move rfl) ?_
    refine WL.pureG rfl rfl rfl rfl rfl (PV.move rfl) ?_
    refine WL.pureG rfl rfl rfl rfl rfl (PV.neq rfl rfl) ?_
    refine WL.pure rfl rfl rfl (PV.pickF rfl rfl) ?_
    refine WL.mv rfl rfl ?_
    refine WL.split (t := 155) rfl (fun hc3 => ?_) (fun hc3 => ?_)
    · skip
      try simp only [nq] at hc3
      exfalso; revert hc3; rw [hlbk]; simp
    try simp only [nq] at hc3
    refine WL.pureG rfl rfl rfl rfl rfl (PV.move rfl) ?_
    refine WL.pureG rfl rfl rfl rfl rfl ((PV.lenOs rfl ho22 T.sl28)) ?_
    refine WL.pureG rfl rfl rfl rfl rfl (PV.move rfl) ?_
    refine WL.pureG rfl rfl rfl rfl rfl (PV.move rfl) ?_
    refine WL.pureG rfl rfl rfl rfl rfl (PV.add rfl rfl (by constructor <;> omega)) ?_
    refine WL.pureG rfl rfl rfl rfl rfl (PV.mul rfl rfl (by constructor <;> omega)) ?_
    refine WL.pureG rfl rfl rfl rfl rfl (PV.quoN rfl rfl (by omega)) ?_
    refine WL.pureG rfl rfl rfl rfl rfl (PV.neq rfl rfl) ?_
    refine WL.pure rfl rfl rfl (PV.pickF rfl rfl) ?_
    refine WL.mv rfl rfl ?_
    refine WL.split (t := 165) rfl (fun hc4 => ?_) (fun hc4 => ?_)
    · skip
      try simp only [nq] at hc4
      exfalso; revert hc4; rw [hafl]; simp
    try simp only [nq] at hc4
    refine WL.pureG rfl rfl rfl rfl rfl (PV.move rfl) ?_
    refine WL.pureG rfl rfl rfl rfl rfl (PV.move rfl) ?_
    refine WL.split (t := 167) rfl (fun hc5 => ?_) (fun hc5 => ?_)
    rotate_left
    · skip
      try simp only [nq] at hc5
      refine WL.skip rfl rfl rfl rfl rfl ?_
      refine WL.skip rfl rfl rfl rfl rfl ?_
      refine WL.skip rfl rfl rfl rfl rfl ?_
      refine WL.skip rfl rfl rfl rfl rfl ?_
      refine WL.skip rfl rfl rfl rfl rfl ?_
      refine WL.pureG rfl rfl rfl rfl rfl (PV.pickF rfl rfl) ?_
      refine WL.pure rfl rfl rfl (PV.pickF rfl rfl) ?_
      refine WL.mv rfl rfl ?_
      refine WL.pureG rfl rfl rfl rfl rfl (PV.move rfl) ?_
      refine WL.pureG rfl rfl rfl rfl rfl (PV.move rfl) ?_
      refine WL.pureG rfl rfl rfl rfl rfl (PV.sub rfl rfl (by constructor <;> omega)) ?_
      first
        | refine WL.atO (x := .tmp 176) (y := .tmp 178) (f := VI) (0) rfl rfl ho22 (by first | omega | (simp only [List.length_set]; omega) | (simp only [List.length_append, List.length_take, List.length_replicate, List.length_drop]; omega)) (fun p1 hpp1 hcp1 => ?_)
        | refine WL.atOZ (x := .tmp 176) (y := .tmp 178) (f := VI) (0) rfl rfl ho22 (by first | omega | (simp only [List.length_set]; omega) | (simp only [List.length_append, List.length_take, List.length_replicate, List.length_drop]; omega)) (fun p1 hpp1 hzp1 hcp1 => ?_)
      refine WL.pureG rfl rfl rfl rfl rfl ((by first | exact PV.indexAddr hpp1 rfl rfl T.sl28 | exact PV.indexAddr hpp1 rfl (by rw [← hzp1]; rfl) T.sl28)) ?_
      refine WL.pureG rfl rfl rfl rfl rfl ((by first | exact PV.load0 T.na2 rfl (by first | exact Cells.up (by assumption) hB | exact Bx.cells (by assumption) | assumption) (Ext.refl _) rfl | exact PV.load1 T.na2 rfl (by first | exact Cells.up (by assumption) hB | exact Bx.cells (by assumption) | assumption) (Ext.refl _) rfl)) ?_
      refine WL.pureG rfl rfl rfl rfl rfl (PV.rem rfl rfl (by omega) rfl) ?_
      refine WL.pureG rfl rfl rfl rfl rfl (PV.eql rfl rfl) ?_
      refine WL.pureG rfl rfl rfl rfl rfl (PV.move rfl) ?_
      refine WL.pureG rfl rfl rfl rfl rfl (PV.geq rfl rfl) ?_
      refine WL.pureG rfl rfl rfl rfl rfl (PV.neqB T.bl4 rfl rfl) ?_
      refine WL.pure rfl rfl rfl (PV.pickF rfl rfl) ?_
      refine WL.nil ?_
      exact NQ.cut (ρ := [(186, _)]) ⟨rfl, rfl, rfl, rfl, rfl, rfl, rfl, rfl, rfl, rfl, rfl, rfl, rfl, trivial⟩ ⟨(), (congrArg (fun b => [(186, Value.bool b)]) (by first | (simp [hcbt]; done) | (rw [decide_eq_decide.2 hcbt]; simp; exact inferInstance))), hBc, trivial⟩
    try simp only [nq] at hc5
    refine WL.pureG rfl rfl rfl rfl rfl (PV.move rfl) ?_
    refine WL.pureG rfl rfl rfl rfl rfl (PV.gtr rfl rfl) ?_
    refine WL.pureG rfl rfl rfl rfl rfl (PV.move rfl) ?_
    refine WL.pureG rfl rfl rfl rfl rfl (PV.geq rfl rfl) ?_
    refine WL.pureG rfl rfl rfl rfl rfl (PV.neqB T.bl4 rfl rfl) ?_
    refine WL.pureG rfl rfl rfl rfl rfl (PV.pickT rfl rfl) ?_
    refine WL.pure rfl rfl rfl (PV.pickF rfl rfl) ?_
    refine WL.mv rfl rfl ?_
    refine WL.split (t := 175) rfl (fun hc6 => ?_) (fun hc6 => ?_)
    · skip
      try simp only [nq] at hc6
      exfalso; first | (revert hc6; simp; done) | (have hk9 := hm21 (by assumption); revert hc6; simp [hk9]; done) | (revert hc6; rw [decide_eq_decide.2 (hm21 (by assumption))]; simp; exact inferInstance)
    try simp only [nq] at hc6
    refine WL.pureG rfl rfl rfl rfl rfl (PV.move rfl) ?_
    refine WL.pureG rfl rfl rfl rfl rfl (PV.move rfl) ?_
    refine WL.pureG rfl rfl rfl rfl rfl (PV.sub rfl rfl (by constructor <;> omega)) ?_
    first
      | refine WL.atO (x := .tmp 176) (y := .tmp 178) (f := VI) (0) rfl rfl ho22 (by first | omega | (simp only [List.length_set]; omega) | (simp only [List.length_append, List.length_take, List.length_replicate, List.length_drop]; omega)) (fun p2 hpp2 hcp2 => ?_)
      | refine WL.atOZ (x := .tmp 176) (y := .tmp 178) (f := VI) (0) rfl rfl ho22 (by first | omega | (simp only [List.length_set]; omega) | (simp only [List.length_append, List.length_take, List.length_replicate, List.length_drop]; omega)) (fun p2 hpp2 hzp2 hcp2 => ?_)
    refine WL.pureG rfl rfl rfl rfl rfl ((by first | exact PV.indexAddr hpp2 rfl rfl T.sl28 | exact PV.indexAddr hpp2 rfl (by rw [← hzp2]; rfl) T.sl28)) ?_
    refine WL.pureG rfl rfl rfl rfl rfl ((by first | exact PV.load0 T.na2 rfl (by first | exact Cells.up (by assumption) hB | exact Bx.cells (by assumption) | assumption) (Ext.refl _) rfl | exact PV.load1 T.na2 rfl (by first | exact Cells.up (by assumption) hB | exact Bx.cells (by assumption) | assumption) (Ext.refl _) rfl)) ?_
    refine WL.pureG rfl rfl rfl rfl rfl (PV.rem rfl rfl (by omega) rfl) ?_
    refine WL.pureG rfl rfl rfl rfl rfl (PV.eql rfl rfl) ?_
    refine WL.pureG rfl rfl rfl rfl rfl (PV.move rfl) ?_
    refine WL.pureG rfl rfl rfl rfl rfl (PV.geq rfl rfl) ?_
    refine WL.pureG rfl rfl rfl rfl rfl (PV.neqB T.bl4 rfl rfl) ?_
    refine WL.pure rfl rfl rfl (PV.pickF rfl rfl) ?_
    refine WL.nil ?_
    exact NQ.cut (ρ := [(186, _)]) ⟨rfl, rfl, rfl, rfl, rfl, rfl, rfl, rfl, rfl, rfl, rfl, rfl, rfl, trivial⟩ ⟨(), (congrArg (fun b => [(186, Value.bool b)]) (by first | (simp [hcbt]; done) | (rw [decide_eq_decide.2 hcbt]; simp; exact inferInstance))), hBc, trivial⟩
  rintro _ wc1 ⟨_, rfl, hXc, _⟩
  have hB := hB.trans hXc
  have ho3 := ho3.up hXc
  have hb6 := hb6.up hXc
  have ho9 := ho9.up hXc
  have hb12 := hb12.up hXc
  have ho15 := ho15.up hXc
  have ho18 := ho18.up hXc
  have ho22 := ho22.up hXc
  have ho23 := ho23.up hXc
  have hb24 := hb24.up hXc
  have ho25 := ho25.up hXc
  refine CW.condF rfl ?_
  refine CW.skipS ?_
  refine CW.cut (σk := [(0, _), (1, _), (5, _), (6, _), (7, _), (8, _), (9, _), (11, _), (13, _), (22, _)]) (fun ρ wz => ∃ (_ : Unit), ρ = [] ∧ Ext wc1 wz ∧ True) ⟨rfl, rfl, rfl, rfl, rfl, rfl, rfl, rfl, rfl, rfl, trivial⟩ ?_ ?_
  · skip
    have hB0 := Ext.refl wc1
    have hBc := Ext.refl wc1
    refine CW.seq ?_
    refine CW.reg ?_
    refine WL.mv rfl rfl ?_
    refine WL.nilS ?_
    refine CW.cond rfl (fun hc7 => ?_) (fun hc7 => ?_)
    · skip
      try simp only [nq] at hc7
      have hc0 : 0 ≤ (leastC rs2 ws14 0 ws14.length 0) := (by first | assumption | exact of_decide_eq_true (by assumption) | omega); have hTK := trK_of hm4 hc0; rw [onT_yes (decide_eq_true hc0)] at ho18; have hTL := hTK.ln
      refine CW.seq ?_
      refine CW.reg ?_
      refine WL.asg rfl rfl ?_
      refine WL.nilS ?_
      refine CW.seq ?_
      refine CW.reg ?_
      refine WL.asg rfl rfl ?_
      refine WL.nilS ?_
      refine CW.seq ?_
      refine CW.seq ?_
      refine CW.reg ?_
      refine WL.asg rfl rfl ?_
      refine WL.nilS ?_
      refine CW.block ?_
      refine CW.loop (σk := [(0, _), (1, _), (5, _), (6, _), (7, _), (8, _), (9, _), (11, _), (12, _), (13, _), (22, _), (24, _)]) (fun ρ wz m => ∃ (k : Nat), ρ = [(25, .int .i64 (sumK rs2 ((treeL rs2 ws14 0 ws14.length 0).take k))), (26, .int .i64 ((lvK rs2 ((treeL rs2 ws14 0 ws14.length 0).take k)).length : Nat)), (27, .int .i64 (k : Nat))] ∧ m = (treeL rs2 ws14 0 ws14.length 0).length - k ∧ UpdL [] wc1 wz ∧ (k ≤ (treeL rs2 ws14 0 ws14.length 0).length)) (ρ₀ := [(25, _), (26, _), (27, _)]) (m₀ := _) ⟨rfl, rfl, rfl, rfl, rfl, rfl, rfl, rfl, rfl, rfl, rfl, rfl, rfl, rfl, rfl, trivial⟩ ⟨0, rfl, rfl, (UpdL.refl _ _), (by first | omega | rfl | (simp; done) | assumption | (simp_all; done))⟩ ?_
      rintro _ wl1 _ ⟨k, rfl, rfl, hU0, hk⟩
      have ho3 := ho3.loop hU0 trivial
      have hb6 := hb6.loop hU0 trivial
      have ho9 := ho9.loop hU0 trivial
      have hb12 := hb12.loop hU0 trivial
      have ho15 := ho15.loop hU0 trivial
      have ho18 := ho18.loop hU0 trivial
      have ho22 := ho22.loop hU0 trivial
      have ho23 := ho23.loop hU0 trivial
      have hb24 := hb24.loop hU0 trivial
      have ho25 := ho25.loop hU0 trivial
      have hB := hB.loop hU0 trivial
      have hBc := hBc.loop hU0 trivial
      refine CW.seq ?_
      refine CW.seq ?_
      refine CW.reg ?_
      refine WL.mv rfl rfl ?_
      refine WL.mv rfl rfl ?_
      refine WL.pure rfl rfl rfl ((PV.lenOs rfl ho18 T.sl28)) ?_
      refine WL.pure rfl rfl rfl (PV.lss rfl rfl) ?_
      refine WL.nilS ?_
      refine CW.cond rfl (fun hc8 => ?_) (fun hc8 => ?_)
      · skip
        try simp only [nq] at hc8
        have hat := hTK.at hm4 (k := k) (by omega)
        refine CW.skipS ?_
        refine CW.seq ?_
        refine CW.block ?_
        refine CW.seq ?_
        refine CW.seq ?_
        refine CW.draw T.mixed (by kernel_rfl) (fun _ _ _ _ _ h => h) (fun w8 w9 => Upd none w8 w9) 15 (.take 0 (.take 1 (.take 2 (.take 3 (.take 4 (.take 5 (.split (.take 6 (.take 7 (.take 8 (.take 9 (.take 10 (.take 11 (.take 12 (.take 13 (.take 14 .done))))))))) (.take 6 (.take 7 (.take 8 (.take 9 (.take 10 (.take 11 (.take 12 (.take 13 (.take 14 .done)))))))))))))))) (by kernel_rfl) (fun w24 hXd => ?_)
        have hB := hB.trans hXd
        have hBc := (by first | exact hBc.trans hXd | exact hB0.trans hXd)
        have ho3 := ho3.up hXd
        have hb6 := hb6.up hXd
        have ho9 := ho9.up hXd
        have hb12 := hb12.up hXd
        have ho15 := ho15.up hXd
        have ho18 := ho18.up hXd
        have ho22 := ho22.up hXd
        have ho23 := ho23.up hXd
        have hb24 := hb24.up hXd
        have ho25 := ho25.up hXd
        have hU0 := hU0.ext hXd
        have hBr := hB
        have hS : Upd none w24 w24 := Ext.toUpd (Ext.refl _)
        refine HP.take rfl rfl rfl rfl hS (fun wS hS1 => PV.move rfl) ?_
        refine HP.take rfl rfl rfl rfl hS (fun wS hS1 => PV.move rfl) ?_
        first
          | refine HP.atO (wb := w24) (x := .tmp 194) (y := .tmp 195) (f := VI) (0) rfl rfl (by assumption) (by first | omega | (simp only [List.length_set]; omega) | (simp only [List.length_append, List.length_take, List.length_replicate, List.length_drop]; omega)) (fun p3 hpp3 hcp3 => ?_)
          | refine HP.atOZ (wb := w24) (x := .tmp 194) (y := .tmp 195) (f := VI) (0) rfl rfl (by assumption) (by first | omega | (simp only [List.length_set]; omega) | (simp only [List.length_append, List.length_take, List.length_replicate, List.length_drop]; omega)) (fun p3 hpp3 hzp3 hcp3 => ?_)
        refine HP.take rfl rfl rfl rfl hS (fun wS hS1 => (by first | exact PV.indexAddr hpp3 rfl rfl T.sl28 | exact PV.indexAddr hpp3 rfl (by rw [← hzp3]; rfl) T.sl28)) ?_
        refine HP.take rfl rfl rfl rfl hS (fun wS hS1 => (by first | exact PV.load0 T.na2 rfl (by first | exact Cells.up (by assumption) (hBr.trans hS1) | exact Bx.cells (Bx.updD (by assumption) hS1 (Dj.nlR _)) | exact Cells.upd (by assumption) hS1 (by simp)) (Ext.refl _) rfl | exact PV.load1 T.na2 rfl (by first | exact Cells.up (by assumption) (hBr.trans hS1) | exact Bx.cells (Bx.updD (by assumption) hS1 (Dj.nlR _)) | exact Cells.upd (by assumption) hS1 (by simp)) (Ext.refl _) rfl)) ?_
        refine HP.take rfl rfl rfl rfl hS (fun wS hS1 => PV.lss rfl rfl) ?_
        refine HP.take rfl rfl rfl rfl hS (fun wS hS1 => PV.move rfl) ?_
        refine HP.split (t := 199) rfl (fun hc9 => ?_) (fun hc9 => ?_)
        · skip
          try simp only [nq] at hc9
          exfalso; first | omega | (revert hc9; simp; done) | (revert hc9; simp; omega)
        try simp only [nq] at hc9
        refine HP.takeG rfl rfl rfl rfl rfl rfl hS (fun wS hS1 => PV.move rfl) ?_
        refine HP.takeG rfl rfl rfl rfl rfl rfl hS (fun wS hS1 => PV.move rfl) ?_
        first
          | refine HP.atO (wb := w24) (x := .tmp 200) (y := .tmp 201) (f := VI) (0) rfl rfl (by assumption) (by first | omega | (simp only [List.length_set]; omega) | (simp only [List.length_append, List.length_take, List.length_replicate, List.length_drop]; omega)) (fun p4 hpp4 hcp4 => ?_)
          | refine HP.atOZ (wb := w24) (x := .tmp 200) (y := .tmp 201) (f := VI) (0) rfl rfl (by assumption) (by first | omega | (simp only [List.length_set]; omega) | (simp only [List.length_append, List.length_take, List.length_replicate, List.length_drop]; omega)) (fun p4 hpp4 hzp4 hcp4 => ?_)
        refine HP.takeG rfl rfl rfl rfl rfl rfl hS (fun wS hS1 => (by first | exact PV.indexAddr hpp4 rfl rfl T.sl28 | exact PV.indexAddr hpp4 rfl (by rw [← hzp4]; rfl) T.sl28)) ?_
        refine HP.takeG rfl rfl rfl rfl rfl rfl hS (fun wS hS1 => (by first | exact PV.load0 T.na2 rfl (by first | exact Cells.up (by assumption) (hBr.trans hS1) | exact Bx.cells (Bx.updD (by assumption) hS1 (Dj.nlR _)) | exact Cells.upd (by assumption) hS1 (by simp)) (Ext.refl _) rfl | exact PV.load1 T.na2 rfl (by first | exact Cells.up (by assumption) (hBr.trans hS1) | exact Bx.cells (Bx.updD (by assumption) hS1 (Dj.nlR _)) | exact Cells.upd (by assumption) hS1 (by simp)) (Ext.refl _) rfl)) ?_
        refine HP.takeG rfl rfl rfl rfl rfl rfl hS (fun wS hS1 => PV.fieldAddr T.fl33_2 rfl hb6.cells) ?_
        refine HP.takeG rfl rfl rfl rfl rfl rfl hS (fun wS hS1 => PV.load1 T.na31 rfl (Bx.cells (Bx.updD (by assumption) hS1 (Dj.nlR _))) (Ext.refl _) rfl) ?_
        refine HP.takeG rfl rfl rfl rfl rfl rfl hS (fun wS hS1 => (PV.lenOsn rfl ho3 T.sl31)) ?_
        refine HP.takeG rfl rfl rfl rfl rfl rfl hS (fun wS hS1 => PV.geq rfl rfl) ?_
        refine HP.take rfl rfl rfl rfl hS (fun wS hS1 => PV.pickF rfl rfl) ?_
        refine HP.doneS ?_
        refine CW.cond rfl (fun hc10 => ?_) (fun hc10 => ?_)
        · skip
          try simp only [nq] at hc10
          exfalso; first | omega | (revert hc10; simp; done) | (revert hc10; simp; omega)
        try simp only [nq] at hc10
        refine CW.skipS ?_
        refine CW.seq ?_
        refine CW.draw T.mixed (by kernel_rfl) (fun _ _ _ _ _ h => h) (fun w8 w9 => Upd none w8 w9) 10 (.take 0 (.take 1 (.take 2 (.take 3 (.take 4 (.take 5 (.take 6 (.take 7 (.must 8 (.must 9 .done)))))))))) (by kernel_rfl) (fun w25 hXd => ?_)
        have hB := hB.trans hXd
        have hBc := (by first | exact hBc.trans hXd | exact hB0.trans hXd)
        have ho3 := ho3.up hXd
        have hb6 := hb6.up hXd
        have ho9 := ho9.up hXd
        have hb12 := hb12.up hXd
        have ho15 := ho15.up hXd
        have ho18 := ho18.up hXd
        have ho22 := ho22.up hXd
        have ho23 := ho23.up hXd
        have hb24 := hb24.up hXd
        have ho25 := ho25.up hXd
        have hU0 := hU0.ext hXd
        have hBr := hB
        have hS : Upd none w25 w25 := Ext.toUpd (Ext.refl _)
        refine HP.take rfl rfl rfl rfl hS (fun wS hS1 => PV.fieldAddr T.fl33_2 rfl hb6.cells) ?_
        refine HP.take rfl rfl rfl rfl hS (fun wS hS1 => PV.load1 T.na31 rfl (Bx.cells (Bx.updD (by assumption) hS1 (Dj.nlR _))) (Ext.refl _) rfl) ?_
        refine HP.take rfl rfl rfl rfl hS (fun wS hS1 => PV.move rfl) ?_
        refine HP.take rfl rfl rfl rfl hS (fun wS hS1 => PV.move rfl) ?_
        first
          | refine HP.atO (wb := w25) (x := .tmp 211) (y := .tmp 212) (f := VI) (0) rfl rfl (by assumption) (by first | omega | (simp only [List.length_set]; omega) | (simp only [List.length_append, List.length_take, List.length_replicate, List.length_drop]; omega)) (fun p5 hpp5 hcp5 => ?_)
          | refine HP.atOZ (wb := w25) (x := .tmp 211) (y := .tmp 212) (f := VI) (0) rfl rfl (by assumption) (by first | omega | (simp only [List.length_set]; omega) | (simp only [List.length_append, List.length_take, List.length_replicate, List.length_drop]; omega)) (fun p5 hpp5 hzp5 hcp5 => ?_)
        refine HP.take rfl rfl rfl rfl hS (fun wS hS1 => (by first | exact PV.indexAddr hpp5 rfl rfl T.sl28 | exact PV.indexAddr hpp5 rfl (by rw [← hzp5]; rfl) T.sl28)) ?_
        refine HP.take rfl rfl rfl rfl hS (fun wS hS1 => (by first | exact PV.load0 T.na2 rfl (by first | exact Cells.up (by assumption) (hBr.trans hS1) | exact Bx.cells (Bx.updD (by assumption) hS1 (Dj.nlR _)) | exact Cells.upd (by assumption) hS1 (by simp)) (Ext.refl _) rfl | exact PV.load1 T.na2 rfl (by first | exact Cells.up (by assumption) (hBr.trans hS1) | exact Bx.cells (Bx.updD (by assumption) hS1 (Dj.nlR _)) | exact Cells.upd (by assumption) hS1 (by simp)) (Ext.refl _) rfl)) ?_
        have hrdp6 := ho3.rdR
        first
          | refine HP.at (x := .tmp 210) (y := .tmp 214) (E := ER) ((0, 0, 0, 0)) rfl rfl hrdp6 (by first | omega | (simp only [List.length_set]; omega) | (simp only [List.length_append, List.length_take, List.length_replicate, List.length_drop]; omega)) (fun p6 csp6 hpp6 hcp6 hq => ?_)
          | refine HP.atZ (x := .tmp 210) (y := .tmp 214) (E := ER) ((0, 0, 0, 0)) rfl rfl hrdp6 (by first | omega | (simp only [List.length_set]; omega) | (simp only [List.length_append, List.length_take, List.length_replicate, List.length_drop]; omega)) (fun p6 csp6 hpp6 hzp6 hcp6 hq => ?_)
        cases hq
        refine HP.take rfl rfl rfl rfl hS (fun wS hS1 => (by first | exact PV.indexAddr hpp6 rfl rfl T.sl31 | exact PV.indexAddr hpp6 rfl (by rw [← hzp6]; rfl) T.sl31)) ?_
        refine HP.take rfl rfl rfl rfl hS (fun wS hS1 => (by first | exact PV.loadA T.ag56 rfl (by first | exact Cells.up (by assumption) (hBr.trans hS1) | exact Bx.cells (Bx.updD (by assumption) hS1 (Dj.nlR _)) | exact Cells.upd (by assumption) hS1 (by simp)) (Ext.refl _) rfl | exact PV.loadP (ds := [_, _, _, _]) T.ag56 rfl (by first | exact Cells.up (by assumption) (hBr.trans hS1) | exact Bx.cells (Bx.updD (by assumption) hS1 (Dj.nlR _)) | exact Cells.upd (by assumption) hS1 (by simp)) (Ext.refl _) rfl rfl)) ?_
        refine HP.must rfl rfl (OpK.alloc rfl T.zv56 rfl (fun b26 w26 hXw26 hb26 hge26 => ?_))
        have hl26 := Lo.new hB hge26
        have hvc26 := Lo.new hBc hge26
        have hv26 := Lo.new hS hge26
        have hd3_26 := Dj.new ho3.ltO hge26
        have hd6_26 := Dj.new hb6.ltO hge26
        have hd9_26 := Dj.new ho9.ltO hge26
        have hd12_26 := Dj.new hb12.ltO hge26
        have hd15_26 := Dj.new ho15.ltO hge26
        have hd18_26 := Dj.new ho18.ltO hge26
        have hd22_26 := Dj.new ho22.ltO hge26
        have hd23_26 := Dj.new ho23.ltO hge26
        have hd24_26 := Dj.new hb24.ltO hge26
        have hd25_26 := Dj.new ho25.ltO hge26
        have hk0_26 := OkN.new hU0 hge26
        have hg0_26 := OgR.new hU0.size hge26
        refine ⟨Upd.trans hS hXw26, ?_⟩
        have hS := Upd.trans hS hXw26
        have hB := hB.trans hXw26
        have hBc := (by first | exact hBc.trans hXw26 | exact hB0.trans hXw26)
        have ho3 := ho3.up hXw26
        have hb6 := hb6.up hXw26
        have ho9 := ho9.up hXw26
        have hb12 := hb12.up hXw26
        have ho15 := ho15.up hXw26
        have ho18 := ho18.up hXw26
        have ho22 := ho22.up hXw26
        have ho23 := ho23.up hXw26
        have hb24 := hb24.up hXw26
        have ho25 := ho25.up hXw26
        have hU0 := hU0.ext hXw26
        refine HP.must rfl rfl (OpK.storeA T.sz56 rfl rfl rfl rfl (by simp [Value.oneCell'] <;> first | done | (repeat' apply And.intro) <;> first | rfl | exact Osl.oneCell (by assumption) | exact Osn.oneCell (by assumption) | exact Rd.oneCell (by assumption) | exact Rd.oneCell (NL.rd (by assumption)) | assumption) hb26 (fun w27 hXw27 hb26 => ?_))
        refine ⟨Ext.updL hS hXw27 hv26, ?_⟩
        have hS := Ext.updL hS hXw27 hv26
        have hB := hB.updL hXw27 hl26
        have hBc := (by first | exact hBc.updL hXw27 hvc26 | exact hBc.updL hXw27 (Lo.up hv26 hXd))
        have ho3 := ho3.updD hXw27 hd3_26
        have hb6 := hb6.updD hXw27 hd6_26
        have ho9 := ho9.updD hXw27 hd9_26
        have hb12 := hb12.updD hXw27 hd12_26
        have ho15 := ho15.updD hXw27 hd15_26
        have ho18 := ho18.updD hXw27 hd18_26
        have ho22 := ho22.updD hXw27 hd22_26
        have ho23 := ho23.updD hXw27 hd23_26
        have hb24 := hb24.updD hXw27 hd24_26
        have ho25 := ho25.updD hXw27 hd25_26
        have hU0 := hU0.step hXw27 hk0_26
        refine HP.doneS ?_
        refine CW.seq ?_
        refine CW.reg ?_
        refine WL.mv rfl rfl ?_
        refine WL.pure rfl rfl rfl (PV.fieldAddr T.fl56_3 rfl hb26.cells) ?_
        refine WL.pure rfl rfl rfl (PV.load1 T.na2 rfl hb26.cells (Ext.refl _) rfl) ?_
        refine WL.pure rfl rfl rfl (PV.add rfl rfl (by constructor <;> omega)) ?_
        refine WL.asg rfl rfl ?_
        refine WL.nilS ?_
        refine CW.seq ?_
        refine CW.reg ?_
        refine WL.pure rfl rfl rfl (PV.fieldAddr T.fl56_2 rfl hb26.cells) ?_
        refine WL.pure rfl rfl rfl (PV.load1 T.na2 rfl hb26.cells (Ext.refl _) rfl) ?_
        refine WL.pure rfl rfl rfl (PV.lss rfl rfl) ?_
        refine WL.nilS ?_
        refine CW.cond rfl (fun hc11 => ?_) (fun hc11 => ?_)
        · skip
          try simp only [nq] at hc11
          have hlf := hat.2.2.2.2.1 (by first | assumption | omega)
          refine CW.seq ?_
          refine CW.seq ?_
          refine CW.draw T.mixed (by kernel_rfl) (fun _ _ _ _ _ h => h) (fun w8 w9 => Upd none w8 w9) 12 (.take 0 (.take 1 (.take 2 (.take 3 (.split (.take 4 (.take 5 (.take 6 (.take 7 (.take 8 (.take 9 (.take 10 (.take 11 .done)))))))) (.take 4 (.take 5 (.take 6 (.take 7 (.take 8 (.take 9 (.take 10 (.take 11 .done))))))))))))) (by kernel_rfl) (fun w28 hXd => ?_)
          have hB := hB.trans hXd
          have hBc := (by first | exact hBc.trans hXd | exact hB0.trans hXd)
          have ho3 := ho3.up hXd
          have hb6 := hb6.up hXd
          have ho9 := ho9.up hXd
          have hb12 := hb12.up hXd
          have ho15 := ho15.up hXd
          have ho18 := ho18.up hXd
          have ho22 := ho22.up hXd
          have ho23 := ho23.up hXd
          have hb24 := hb24.up hXd
          have ho25 := ho25.up hXd
          have hb26 := hb26.up hXd
          have hU0 := hU0.ext hXd
          have hBr := hB
          have hS : Upd none w28 w28 := Ext.toUpd (Ext.refl _)
          refine HP.take rfl rfl rfl rfl hS (fun wS hS1 => PV.move rfl) ?_
          refine HP.take rfl rfl rfl rfl hS (fun wS hS1 => PV.move rfl) ?_
          refine HP.take rfl rfl rfl rfl hS (fun wS hS1 => PV.geq rfl rfl) ?_
          refine HP.take rfl rfl rfl rfl hS (fun wS hS1 => PV.move rfl) ?_
          refine HP.split (t := 227) rfl (fun hc12 => ?_) (fun hc12 => ?_)
          · skip
            try simp only [nq] at hc12
            exfalso; first | omega | (revert hc12; simp; done) | (revert hc12; simp; omega)
          try simp only [nq] at hc12
          refine HP.takeG rfl rfl rfl rfl rfl rfl hS (fun wS hS1 => PV.fieldAddr T.fl56_1 rfl hb26.cells) ?_
          refine HP.takeG rfl rfl rfl rfl rfl rfl hS (fun wS hS1 => PV.load1 T.na2 rfl (Bx.cells (Bx.updD (by assumption) hS1 (Dj.nlR _))) (Ext.refl _) rfl) ?_
          refine HP.takeG rfl rfl rfl rfl rfl rfl hS (fun wS hS1 => PV.move rfl) ?_
          refine HP.takeG rfl rfl rfl rfl rfl rfl hS (fun wS hS1 => PV.move rfl) ?_
          first
            | refine HP.atO (wb := w28) (x := .tmp 230) (y := .tmp 231) (f := VI) (0) rfl rfl (by assumption) (by first | omega | (simp only [List.length_set]; omega) | (simp only [List.length_append, List.length_take, List.length_replicate, List.length_drop]; omega)) (fun p7 hpp7 hcp7 => ?_)
            | refine HP.atOZ (wb := w28) (x := .tmp 230) (y := .tmp 231) (f := VI) (0) rfl rfl (by assumption) (by first | omega | (simp only [List.length_set]; omega) | (simp only [List.length_append, List.length_take, List.length_replicate, List.length_drop]; omega)) (fun p7 hpp7 hzp7 hcp7 => ?_)
          refine HP.takeG rfl rfl rfl rfl rfl rfl hS (fun wS hS1 => (by first | exact PV.indexAddr hpp7 rfl rfl T.sl28 | exact PV.indexAddr hpp7 rfl (by rw [← hzp7]; rfl) T.sl28)) ?_
          refine HP.takeG rfl rfl rfl rfl rfl rfl hS (fun wS hS1 => (by first | exact PV.load0 T.na2 rfl (by first | exact Cells.up (by assumption) (hBr.trans hS1) | exact Bx.cells (Bx.updD (by assumption) hS1 (Dj.nlR _)) | exact Cells.upd (by assumption) hS1 (by simp)) (Ext.refl _) rfl | exact PV.load1 T.na2 rfl (by first | exact Cells.up (by assumption) (hBr.trans hS1) | exact Bx.cells (Bx.updD (by assumption) hS1 (Dj.nlR _)) | exact Cells.upd (by assumption) hS1 (by simp)) (Ext.refl _) rfl)) ?_
          refine HP.takeG rfl rfl rfl rfl rfl rfl hS (fun wS hS1 => PV.neq rfl rfl) ?_
          refine HP.take rfl rfl rfl rfl hS (fun wS hS1 => PV.pickF rfl rfl) ?_
          refine HP.doneS ?_
          refine CW.cond rfl (fun hc13 => ?_) (fun hc13 => ?_)
          · skip
            try simp only [nq] at hc13
            exfalso; first | exact absurd hlf.2.1 hc13 | (revert hc13; rw [hlf.2.1]; simp)
          try simp only [nq] at hc13
          refine CW.skipS ?_
          refine CW.reg ?_
          refine WL.mv rfl rfl ?_
          refine WL.pure rfl rfl rfl (PV.add rfl rfl (by constructor <;> omega)) ?_
          refine WL.asg rfl rfl ?_
          refine WL.nil ?_
          refine NQ.block ?_
          refine NQ.then ?_
          refine CW.reg ?_
          refine WL.mv rfl rfl ?_
          refine WL.pure rfl rfl rfl (PV.add rfl rfl (by constructor <;> omega)) ?_
          refine WL.asg rfl rfl ?_
          refine WL.nil ?_
          refine NQ.next (ρ := [(25, _), (26, _), (27, _)]) ⟨rfl, rfl, rfl, rfl, rfl, rfl, rfl, rfl, rfl, rfl, rfl, rfl, rfl, rfl, rfl, trivial⟩ ?_
          exact ⟨_, ⟨k + 1, (by rw [hat.2.2.2.1]; first | (rw [hlf.2.2]; rfl) | (rw [hnd]; rfl)), rfl, hU0, (by first | omega | assumption | (simp_all; done) | (simp_all; omega))⟩, by omega⟩
        try simp only [nq] at hc11
        have hnd := hat.2.2.2.2.2 (by first | assumption | omega)
        refine CW.skip ?_
        refine NQ.block ?_
        refine NQ.then ?_
        refine CW.reg ?_
        refine WL.mv rfl rfl ?_
        refine WL.pure rfl rfl rfl (PV.add rfl rfl (by constructor <;> omega)) ?_
        refine WL.asg rfl rfl ?_
        refine WL.nil ?_
        refine NQ.next (ρ := [(25, _), (26, _), (27, _)]) ⟨rfl, rfl, rfl, rfl, rfl, rfl, rfl, rfl, rfl, rfl, rfl, rfl, rfl, rfl, rfl, trivial⟩ ?_
        exact ⟨_, ⟨k + 1, (by rw [hat.2.2.2.1]; first | (rw [hlf.2.2]; rfl) | (rw [hnd]; rfl)), rfl, hU0, (by first | omega | assumption | (simp_all; done) | (simp_all; omega))⟩, by omega⟩
      try simp only [nq] at hc8
      have hen := hTK.end (k := k) (by omega); have ha0 := (hTK.at hm4 (k := 0) (by omega)).1
      refine CW.exit ?_
      refine XQ.then ?_
      refine XQ.then ?_
      refine XQ.here ?_
      refine NQ.then ?_
      refine CW.seq ?_
      refine CW.draw T.mixed (by kernel_rfl) (fun _ _ _ _ _ h => h) (fun w8 w9 => Upd none w8 w9) 32 (.take 0 (.take 1 (.take 2 (.take 3 (.split (.take 4 (.take 5 (.take 6 (.take 7 (.take 8 (.take 9 (.take 10 (.take 11 (.take 12 (.take 13 (.take 14 (.take 15 (.take 16 (.take 17 (.take 18 (.take 19 (.take 20 (.take 21 (.take 22 (.take 23 (.take 24 (.take 25 (.take 26 (.take 27 (.take 28 (.take 29 (.take 30 (.take 31 .done)))))))))))))))))))))))))))) (.take 4 (.take 5 (.take 6 (.take 7 (.take 8 (.split (.take 9 (.take 10 (.take 11 (.take 12 (.take 13 (.take 14 (.take 15 (.take 16 (.take 17 (.take 18 (.take 19 (.take 20 (.take 21 (.take 22 (.take 23 (.take 24 (.take 25 (.take 26 (.take 27 (.take 28 (.take 29 (.take 30 (.take 31 .done))))))))))))))))))))))) (.take 9 (.take 10 (.take 11 (.take 12 (.take 13 (.split (.take 14 (.take 15 (.take 16 (.take 17 (.take 18 (.take 19 (.take 20 (.take 21 (.take 22 (.take 23 (.take 24 (.take 25 (.take 26 (.take 27 (.take 28 (.take 29 (.take 30 (.take 31 .done)))))))))))))))))) (.take 14 (.take 15 (.take 16 (.take 17 (.take 18 (.take 19 (.take 20 (.take 21 (.split (.take 22 (.take 23 (.take 24 (.take 25 (.take 26 (.take 27 (.take 28 (.take 29 (.take 30 (.take 31 .done)))))))))) (.take 22 (.take 23 (.take 24 (.take 25 (.take 26 (.take 27 (.take 28 (.take 29 (.take 30 (.take 31 .done)))))))))))))))))))))))))))))))))))) (by kernel_rfl) (fun w29 hXd => ?_)
      have hB := hB.trans hXd
      have hBc := (by first | exact hBc.trans hXd | exact hB0.trans hXd)
      have ho3 := ho3.up hXd
      have hb6 := hb6.up hXd
      have ho9 := ho9.up hXd
      have hb12 := hb12.up hXd
      have ho15 := ho15.up hXd
      have ho18 := ho18.up hXd
      have ho22 := ho22.up hXd
      have ho23 := ho23.up hXd
      have hb24 := hb24.up hXd
      have ho25 := ho25.up hXd
      have hBr := hB
      have hS : Upd none w29 w29 := Ext.toUpd (Ext.refl _)
      refine HP.take rfl rfl rfl rfl hS (fun wS hS1 => PV.move rfl) ?_
      refine HP.take rfl rfl rfl rfl hS (fun wS hS1 => PV.move rfl) ?_
      refine HP.take rfl rfl rfl rfl hS (fun wS hS1 => PV.neq rfl rfl) ?_
      refine HP.take rfl rfl rfl rfl hS (fun wS hS1 => PV.move rfl) ?_
      refine HP.split (t := 241) rfl (fun hc14 => ?_) (fun hc14 => ?_)
      · skip
        try simp only [nq] at hc14
        exfalso; revert hc14; rw [onI_yes (decide_eq_true hc0)]; simp
      try simp only [nq] at hc14
      refine HP.takeG rfl rfl rfl rfl rfl rfl hS (fun wS hS1 => PV.move rfl) ?_
      refine HP.takeG rfl rfl rfl rfl rfl rfl hS (fun wS hS1 => PV.move rfl) ?_
      refine HP.takeG rfl rfl rfl rfl rfl rfl hS (fun wS hS1 => PV.neq rfl rfl) ?_
      refine HP.take rfl rfl rfl rfl hS (fun wS hS1 => PV.pickF rfl rfl) ?_
      refine HP.take rfl rfl rfl rfl hS (fun wS hS1 => PV.move rfl) ?_
      refine HP.split (t := 246) rfl (fun hc15 => ?_) (fun hc15 => ?_)
      · skip
        try simp only [nq] at hc15
        exfalso; revert hc15; rw [hen.1]; simp
      try simp only [nq] at hc15
      refine HP.takeG rfl rfl rfl rfl rfl rfl hS (fun wS hS1 => PV.move rfl) ?_
      refine HP.takeG rfl rfl rfl rfl rfl rfl hS (fun wS hS1 => PV.move rfl) ?_
      refine HP.takeG rfl rfl rfl rfl rfl rfl hS (fun wS hS1 => PV.neq rfl rfl) ?_
      refine HP.take rfl rfl rfl rfl hS (fun wS hS1 => PV.pickF rfl rfl) ?_
      refine HP.take rfl rfl rfl rfl hS (fun wS hS1 => PV.move rfl) ?_
      refine HP.split (t := 251) rfl (fun hc16 => ?_) (fun hc16 => ?_)
      · skip
        try simp only [nq] at hc16
        exfalso; revert hc16; rw [hen.2.1]; simp
      try simp only [nq] at hc16
      refine HP.takeG rfl rfl rfl rfl rfl rfl hS (fun wS hS1 => PV.move rfl) ?_
      refine HP.takeG rfl rfl rfl rfl rfl rfl hS (fun wS hS1 => (PV.lenOs rfl ho18 T.sl28)) ?_
      refine HP.takeG rfl rfl rfl rfl rfl rfl hS (fun wS hS1 => PV.move rfl) ?_
      refine HP.takeG rfl rfl rfl rfl rfl rfl hS (fun wS hS1 => PV.mul rfl rfl (by constructor <;> omega)) ?_
      refine HP.takeG rfl rfl rfl rfl rfl rfl hS (fun wS hS1 => PV.sub rfl rfl (by constructor <;> omega)) ?_
      refine HP.takeG rfl rfl rfl rfl rfl rfl hS (fun wS hS1 => PV.neq rfl rfl) ?_
      refine HP.take rfl rfl rfl rfl hS (fun wS hS1 => PV.pickF rfl rfl) ?_
      refine HP.take rfl rfl rfl rfl hS (fun wS hS1 => PV.move rfl) ?_
      refine HP.split (t := 259) rfl (fun hc17 => ?_) (fun hc17 => ?_)
      · skip
        try simp only [nq] at hc17
        exfalso; revert hc17; rw [hen.2.2]; simp
      try simp only [nq] at hc17
      refine HP.takeG rfl rfl rfl rfl rfl rfl hS (fun wS hS1 => PV.fieldAddr T.fl33_2 rfl hb6.cells) ?_
      refine HP.takeG rfl rfl rfl rfl rfl rfl hS (fun wS hS1 => PV.load1 T.na31 rfl (Bx.cells (Bx.updD (by assumption) hS1 (Dj.nlR _))) (Ext.refl _) rfl) ?_
      refine HP.takeG rfl rfl rfl rfl rfl rfl hS (fun wS hS1 => PV.move rfl) ?_
      first
        | refine HP.atO (wb := w29) (x := .tmp 262) (y := .const (.int .i64 0)) (f := VI) (0) rfl rfl (by assumption) (by first | omega | (simp only [List.length_set]; omega) | (simp only [List.length_append, List.length_take, List.length_replicate, List.length_drop]; omega)) (fun p8 hpp8 hcp8 => ?_)
        | refine HP.atOZ (wb := w29) (x := .tmp 262) (y := .const (.int .i64 0)) (f := VI) (0) rfl rfl (by assumption) (by first | omega | (simp only [List.length_set]; omega) | (simp only [List.length_append, List.length_take, List.length_replicate, List.length_drop]; omega)) (fun p8 hpp8 hzp8 hcp8 => ?_)
      refine HP.takeG rfl rfl rfl rfl rfl rfl hS (fun wS hS1 => (by first | exact PV.indexAddr hpp8 rfl rfl T.sl28 | exact PV.indexAddr hpp8 rfl (by rw [← hzp8]; rfl) T.sl28)) ?_
      refine HP.takeG rfl rfl rfl rfl rfl rfl hS (fun wS hS1 => (by first | exact PV.load0 T.na2 rfl (by first | exact Cells.up (by assumption) (hBr.trans hS1) | exact Bx.cells (Bx.updD (by assumption) hS1 (Dj.nlR _)) | exact Cells.upd (by assumption) hS1 (by simp)) (Ext.refl _) rfl | exact PV.load1 T.na2 rfl (by first | exact Cells.up (by assumption) (hBr.trans hS1) | exact Bx.cells (Bx.updD (by assumption) hS1 (Dj.nlR _)) | exact Cells.upd (by assumption) hS1 (by simp)) (Ext.refl _) rfl)) ?_
      have hrdp9 := ho3.rdR
      first
        | refine HP.at (x := .tmp 261) (y := .tmp 264) (E := ER) ((0, 0, 0, 0)) rfl rfl hrdp9 (by first | omega | (simp only [List.length_set]; omega) | (simp only [List.length_append, List.length_take, List.length_replicate, List.length_drop]; omega)) (fun p9 csp9 hpp9 hcp9 hq => ?_)
        | refine HP.atZ (x := .tmp 261) (y := .tmp 264) (E := ER) ((0, 0, 0, 0)) rfl rfl hrdp9 (by first | omega | (simp only [List.length_set]; omega) | (simp only [List.length_append, List.length_take, List.length_replicate, List.length_drop]; omega)) (fun p9 csp9 hpp9 hzp9 hcp9 hq => ?_)
      cases hq
      refine HP.takeG rfl rfl rfl rfl rfl rfl hS (fun wS hS1 => (by first | exact PV.indexAddr hpp9 rfl rfl T.sl31 | exact PV.indexAddr hpp9 rfl (by rw [← hzp9]; rfl) T.sl31)) ?_
      refine HP.takeG rfl rfl rfl rfl rfl rfl hS (fun wS hS1 => (by first | exact PV.fieldAddr T.fl56_0 rfl (by first | assumption | exact Bx.cells (by assumption)) | exact PV.fieldAddrP T.fl56_0 rfl rfl)) ?_
      refine HP.takeG rfl rfl rfl rfl rfl rfl hS (fun wS hS1 => (by first | exact PV.load0 T.na2 rfl (by first | exact Cells.up (by assumption) (hBr.trans hS1) | exact Bx.cells (Bx.updD (by assumption) hS1 (Dj.nlR _)) | exact Cells.upd (by assumption) hS1 (by simp)) (Ext.refl _) rfl | exact PV.load1 T.na2 rfl (by first | exact Cells.up (by assumption) (hBr.trans hS1) | exact Bx.cells (Bx.updD (by assumption) hS1 (Dj.nlR _)) | exact Cells.upd (by assumption) hS1 (by simp)) (Ext.refl _) rfl)) ?_
      refine HP.takeG rfl rfl rfl rfl rfl rfl hS (fun wS hS1 => PV.neq rfl rfl) ?_
      refine HP.take rfl rfl rfl rfl hS (fun wS hS1 => PV.pickF rfl rfl) ?_
      refine HP.doneS ?_
      refine CW.cond rfl (fun hc18 => ?_) (fun hc18 => ?_)
      · skip
        try simp only [nq] at hc18
        exfalso; first | exact absurd hTK.hd hc18 | (revert hc18; rw [show (rs2.getD ((treeL rs2 ws14 0 ws14.length 0).getD (0 : Int).toNat 0).toNat (0, 0, 0, 0)).1 = 0 from hTK.hd]; simp)
      try simp only [nq] at hc18
      refine CW.skip ?_
      exact NQ.cut (ρ := []) ⟨rfl, rfl, rfl, rfl, rfl, rfl, rfl, rfl, rfl, rfl, trivial⟩ ⟨(), rfl, hBc, trivial⟩
    try simp only [nq] at hc7
    refine CW.skip ?_
    exact NQ.cut (ρ := []) ⟨rfl, rfl, rfl, rfl, rfl, rfl, rfl, rfl, rfl, rfl, trivial⟩ ⟨(), rfl, hBc, trivial⟩
  rintro _ wc2 ⟨_, rfl, hXc, _⟩
  have hB := hB.trans hXc
  have ho3 := ho3.up hXc
  have hb6 := hb6.up hXc
  have ho9 := ho9.up hXc
  have hb12 := hb12.up hXc
  have ho15 := ho15.up hXc
  have ho18 := ho18.up hXc
  have ho22 := ho22.up hXc
  have ho23 := ho23.up hXc
  have hb24 := hb24.up hXc
  have ho25 := ho25.up hXc
  refine CW.seq ?_
  refine CW.reg ?_
  refine WL.pure rfl rfl rfl (PV.loadA T.ag33 rfl hb6.cells (Ext.refl _) rfl) ?_
  refine WL.pure rfl rfl rfl (PV.loadA T.ag33 rfl hb12.cells (Ext.refl _) rfl) ?_
  refine WL.op rfl (OpK.call rfl T.cf32 rfl (c_impl_EitherGrammar_y (Osn.rdR ho3) (Osn.rdR ho9)) (fun rv9 w30 hR => ?_))
  obtain ⟨hXw30, em28, el29, er30, ok31, v27, og27, rfl, hm32, hm33, ho27, hq27⟩ := hR
  have hl27 := Lo.up hq27 hB
  have hd3_27 := Dj.lo ho3.ltO hq27
  have hd6_27 := Dj.lo hb6.ltO hq27
  have hd9_27 := Dj.lo ho9.ltO hq27
  have hd12_27 := Dj.lo hb12.ltO hq27
  have hd15_27 := Dj.lo ho15.ltO hq27
  have hd18_27 := Dj.lo ho18.ltO hq27
  have hd22_27 := Dj.lo ho22.ltO hq27
  have hd23_27 := Dj.lo ho23.ltO hq27
  have hd24_27 := Dj.lo hb24.ltO hq27
  have hd25_27 := Dj.lo ho25.ltO hq27
  have hB := hB.trans hXw30
  have ho3 := ho3.up hXw30
  have hb6 := hb6.up hXw30
  have ho9 := ho9.up hXw30
  have hb12 := hb12.up hXw30
  have ho15 := ho15.up hXw30
  have ho18 := ho18.up hXw30
  have ho22 := ho22.up hXw30
  have ho23 := ho23.up hXw30
  have hb24 := hb24.up hXw30
  have ho25 := ho25.up hXw30
  refine WL.mv rfl rfl ?_
  refine WL.pure rfl rfl rfl (PV.extract rfl rfl) ?_
  refine WL.pure rfl rfl rfl (PV.extract rfl rfl) ?_
  refine WL.op rfl (OpK.alloc rfl T.zv33 rfl (fun b34 w31 hXw31 hb34 hge34 => ?_))
  have hl34 := Lo.new hB hge34
  have hd3_34 := Dj.new ho3.ltO hge34
  have hd6_34 := Dj.new hb6.ltO hge34
  have hd9_34 := Dj.new ho9.ltO hge34
  have hd12_34 := Dj.new hb12.ltO hge34
  have hd15_34 := Dj.new ho15.ltO hge34
  have hd18_34 := Dj.new ho18.ltO hge34
  have hd22_34 := Dj.new ho22.ltO hge34
  have hd23_34 := Dj.new ho23.ltO hge34
  have hd24_34 := Dj.new hb24.ltO hge34
  have hd25_34 := Dj.new ho25.ltO hge34
  have hd27_34 := Dj.new ho27.ltO hge34
  have hB := hB.trans hXw31
  have ho3 := ho3.up hXw31
  have hb6 := hb6.up hXw31
  have ho9 := ho9.up hXw31
  have hb12 := hb12.up hXw31
  have ho15 := ho15.up hXw31
  have ho18 := ho18.up hXw31
  have ho22 := ho22.up hXw31
  have ho23 := ho23.up hXw31
  have hb24 := hb24.up hXw31
  have ho25 := ho25.up hXw31
  have ho27 := ho27.up hXw31
  refine WL.op rfl (OpK.storeA T.sz33 rfl rfl rfl rfl (by simp [Value.oneCell'] <;> first | done | (repeat' apply And.intro) <;> first | rfl | exact Osl.oneCell (by assumption) | exact Osn.oneCell (by assumption) | exact Rd.oneCell (by assumption) | exact Rd.oneCell (NL.rd (by assumption)) | assumption) hb34 (fun w32 hXw32 hb34 => ?_))
  have hB := hB.updL hXw32 hl34
  have ho3 := ho3.updD hXw32 hd3_34
  have hb6 := hb6.updD hXw32 hd6_34
  have ho9 := ho9.updD hXw32 hd9_34
  have hb12 := hb12.updD hXw32 hd12_34
  have ho15 := ho15.updD hXw32 hd15_34
  have ho18 := ho18.updD hXw32 hd18_34
  have ho22 := ho22.updD hXw32 hd22_34
  have ho23 := ho23.updD hXw32 hd23_34
  have hb24 := hb24.updD hXw32 hd24_34
  have ho25 := ho25.updD hXw32 hd25_34
  have ho27 := ho27.updD hXw32 hd27_34
  refine WL.asg rfl rfl ?_
  refine WL.nilS ?_
  refine CW.cut (σk := [(0, _), (1, _), (5, _), (6, _), (8, _), (9, _), (11, _), (13, _)]) (fun ρ wz => ∃ (_ : Unit), ρ = [] ∧ Ext w32 wz ∧ True) ⟨rfl, rfl, rfl, rfl, rfl, rfl, rfl, rfl, trivial⟩ ?_ ?_
  · skip
    have hB0 := Ext.refl w32
    have hBc := Ext.refl w32
    refine CW.seq ?_
    refine CW.reg ?_
    refine WL.mv rfl rfl ?_
    refine WL.nilS ?_
    refine CW.cond rfl (fun hc19 => ?_) (fun hc19 => ?_)
    · skip
      try simp only [nq] at hc19
      have hei := hm32 (by assumption); have hel := hm33 (by assumption) ws14; have hcei : canB em28 el29 er30 ws14 = true := can_of hei.1 (by rw [hei.2]; exact hwb) hwl.1
      refine CW.seq ?_
      refine CW.reg ?_
      refine WL.pure rfl rfl rfl (PV.loadA T.ag33 rfl hb34.cells (Ext.refl _) rfl) ?_
      refine WL.mv rfl rfl ?_
      refine WL.op rfl (OpK.callR rfl T.cf26 rfl (c_impl_ParseCost_y (Osn.rdR ho27) (Osl.rd ho15) (by assumption)) (fun w33 hXw33 => ?_))
      have hB := hB.trans hXw33
      have hBc := (by first | exact hBc.trans hXw33 | exact hB0.trans hXw33)
      have ho3 := ho3.up hXw33
      have hb6 := hb6.up hXw33
      have ho9 := ho9.up hXw33
      have hb12 := hb12.up hXw33
      have ho15 := ho15.up hXw33
      have ho18 := ho18.up hXw33
      have ho22 := ho22.up hXw33
      have ho23 := ho23.up hXw33
      have hb24 := hb24.up hXw33
      have ho25 := ho25.up hXw33
      have ho27 := ho27.up hXw33
      have hb34 := hb34.up hXw33
      refine WL.mv rfl rfl ?_
      refine WL.pure rfl rfl rfl (PV.extract rfl rfl) ?_
      refine WL.pure rfl rfl rfl (PV.extract rfl rfl) ?_
      refine WL.asg rfl rfl ?_
      refine WL.asg rfl rfl ?_
      refine WL.nilS ?_
      refine CW.seq ?_
      refine CW.reg ?_
      refine WL.mv rfl rfl ?_
      refine WL.pure rfl rfl rfl (PV.not rfl) ?_
      refine WL.mv rfl rfl ?_
      refine WL.pureG rfl rfl rfl rfl rfl (PV.move rfl) ?_
      refine WL.pureG rfl rfl rfl rfl rfl (PV.move rfl) ?_
      refine WL.pureG rfl rfl rfl rfl rfl (PV.move rfl) ?_
      refine WL.opG rfl rfl rfl (OpK.callR rfl T.cf33 rfl (c_laws_r8Less) (fun w34 hXw34 => ?_))
      have hB := hB.trans hXw34
      have hBc := (by first | exact hBc.trans hXw34 | exact hB0.trans hXw34)
      have ho3 := ho3.up hXw34
      have hb6 := hb6.up hXw34
      have ho9 := ho9.up hXw34
      have hb12 := hb12.up hXw34
      have ho15 := ho15.up hXw34
      have ho18 := ho18.up hXw34
      have ho22 := ho22.up hXw34
      have ho23 := ho23.up hXw34
      have hb24 := hb24.up hXw34
      have ho25 := ho25.up hXw34
      have ho27 := ho27.up hXw34
      have hb34 := hb34.up hXw34
      refine WL.pureG rfl rfl rfl rfl rfl (PV.neq rfl rfl) ?_
      refine WL.pure rfl rfl rfl (PV.pickF rfl rfl) ?_
      refine WL.nilS ?_
      refine CW.cond rfl (fun hc20 => ?_) (fun hc20 => ?_)
      · skip
        try simp only [nq] at hc20
        exfalso; revert hc20; rw [hel]; simp
      try simp only [nq] at hc20
      refine CW.skip ?_
      exact NQ.cut (ρ := []) ⟨rfl, rfl, rfl, rfl, rfl, rfl, rfl, rfl, trivial⟩ ⟨(), rfl, hBc, trivial⟩
    try simp only [nq] at hc19
    refine CW.skip ?_
    exact NQ.cut (ρ := []) ⟨rfl, rfl, rfl, rfl, rfl, rfl, rfl, rfl, trivial⟩ ⟨(), rfl, hBc, trivial⟩
  rintro _ wc3 ⟨_, rfl, hXc, _⟩
  have hB := hB.trans hXc
  have ho3 := ho3.up hXc
  have hb6 := hb6.up hXc
  have ho9 := ho9.up hXc
  have hb12 := hb12.up hXc
  have ho15 := ho15.up hXc
  have ho18 := ho18.up hXc
  have ho22 := ho22.up hXc
  have ho23 := ho23.up hXc
  have hb24 := hb24.up hXc
  have ho25 := ho25.up hXc
  have ho27 := ho27.up hXc
  have hb34 := hb34.up hXc
  refine CW.seq ?_
  refine CW.reg ?_
  have hlen := least_len hm4; have hle := least_le (ws := ws14) hm4
  refine WL.pure rfl rfl rfl (PV.loadA T.ag33 rfl hb6.cells (Ext.refl _) rfl) ?_
  refine WL.op rfl (OpK.call rfl T.cf34 rfl (c_impl_LeastCosts_y (Osn.rdR ho3) (by assumption)) (fun rv10 w35 hR => ?_))
  obtain ⟨hXw35, v35, og35, rfl, ho35, hq35⟩ := hR
  have hl35 := Lo.up hq35 hB
  have hd3_35 := Dj.lo ho3.ltO hq35
  have hd6_35 := Dj.lo hb6.ltO hq35
  have hd9_35 := Dj.lo ho9.ltO hq35
  have hd12_35 := Dj.lo hb12.ltO hq35
  have hd15_35 := Dj.lo ho15.ltO hq35
  have hd18_35 := Dj.lo ho18.ltO hq35
  have hd22_35 := Dj.lo ho22.ltO hq35
  have hd23_35 := Dj.lo ho23.ltO hq35
  have hd24_35 := Dj.lo hb24.ltO hq35
  have hd25_35 := Dj.lo ho25.ltO hq35
  have hd27_35 := Dj.lo ho27.ltO hq35
  have hd34_35 := Dj.lo hb34.ltO hq35
  have hB := hB.trans hXw35
  have ho3 := ho3.up hXw35
  have hb6 := hb6.up hXw35
  have ho9 := ho9.up hXw35
  have hb12 := hb12.up hXw35
  have ho15 := ho15.up hXw35
  have ho18 := ho18.up hXw35
  have ho22 := ho22.up hXw35
  have ho23 := ho23.up hXw35
  have hb24 := hb24.up hXw35
  have ho25 := ho25.up hXw35
  have ho27 := ho27.up hXw35
  have hb34 := hb34.up hXw35
  refine WL.mv rfl rfl ?_
  refine WL.pure rfl rfl rfl (PV.extract rfl rfl) ?_
  refine WL.pure rfl rfl rfl (PV.extract rfl rfl) ?_
  refine WL.asg rfl rfl ?_
  refine WL.asg rfl rfl ?_
  refine WL.nilS ?_
  refine CW.cut (σk := [(0, _), (1, _), (5, _), (6, _), (8, _), (9, _), (11, _), (13, _), (33, _)]) (fun ρ wz => ∃ (_ : Unit), ρ = [] ∧ Ext w35 wz ∧ True) ⟨rfl, rfl, rfl, rfl, rfl, rfl, rfl, rfl, rfl, trivial⟩ ?_ ?_
  · skip
    have hB0 := Ext.refl w35
    have hBc := Ext.refl w35
    refine CW.seq ?_
    refine CW.reg ?_
    refine WL.mv rfl rfl ?_
    refine WL.pure rfl rfl rfl (PV.not rfl) ?_
    refine WL.mv rfl rfl ?_
    refine WL.pureG rfl rfl rfl rfl rfl (PV.move rfl) ?_
    refine WL.pureG rfl rfl rfl rfl rfl ((PV.lenOs rfl ho35 T.sl28)) ?_
    refine WL.pureG rfl rfl rfl rfl rfl (PV.fieldAddr T.fl33_0 rfl hb6.cells) ?_
    refine WL.pureG rfl rfl rfl rfl rfl (PV.load1 T.na2 rfl hb6.cells (Ext.refl _) rfl) ?_
    refine WL.pureG rfl rfl rfl rfl rfl (PV.neq rfl rfl) ?_
    refine WL.pure rfl rfl rfl (PV.pickF rfl rfl) ?_
    refine WL.mv rfl rfl ?_
    refine WL.split (t := 306) rfl (fun hc21 => ?_) (fun hc21 => ?_)
    · skip
      try simp only [nq] at hc21
      exfalso; revert hc21; rw [hlen]; simp
    try simp only [nq] at hc21
    refine WL.pureG rfl rfl rfl rfl rfl (PV.move rfl) ?_
    refine WL.pureG rfl rfl rfl rfl rfl (PV.geq rfl rfl) ?_
    refine WL.pureG rfl rfl rfl rfl rfl (PV.move rfl) ?_
    refine WL.split (t := 309) rfl (fun hc22 => ?_) (fun hc22 => ?_)
    rotate_left
    · skip
      try simp only [nq] at hc22
      refine WL.skip rfl rfl rfl rfl rfl ?_
      refine WL.skip rfl rfl rfl rfl rfl ?_
      refine WL.skip rfl rfl rfl rfl rfl ?_
      refine WL.skip rfl rfl rfl rfl rfl ?_
      refine WL.skip rfl rfl rfl rfl rfl ?_
      refine WL.skipU rfl rfl rfl rfl rfl ?_
      refine WL.skipU rfl rfl rfl rfl rfl ?_
      refine WL.skipU rfl rfl rfl rfl rfl ?_
      refine WL.skipU rfl rfl rfl rfl rfl ?_
      refine WL.skipU rfl rfl rfl rfl rfl ?_
      refine WL.skip rfl rfl rfl rfl rfl ?_
      refine WL.pureG rfl rfl rfl rfl rfl (PV.pickF rfl rfl) ?_
      refine WL.pure rfl rfl rfl (PV.pickF rfl rfl) ?_
      refine WL.nilS ?_
      refine CW.condF rfl ?_
      refine CW.skip ?_
      exact NQ.cut (ρ := []) ⟨rfl, rfl, rfl, rfl, rfl, rfl, rfl, rfl, rfl, trivial⟩ ⟨(), rfl, hBc, trivial⟩
    try simp only [nq] at hc22
    refine WL.pureG rfl rfl rfl rfl rfl (PV.move rfl) ?_
    first
      | refine WL.atO (x := .tmp 310) (y := .const (.int .i64 0)) (f := VI) (0) rfl rfl ho35 (by first | omega | (simp only [List.length_set]; omega) | (simp only [List.length_append, List.length_take, List.length_replicate, List.length_drop]; omega)) (fun p10 hpp10 hcp10 => ?_)
      | refine WL.atOZ (x := .tmp 310) (y := .const (.int .i64 0)) (f := VI) (0) rfl rfl ho35 (by first | omega | (simp only [List.length_set]; omega) | (simp only [List.length_append, List.length_take, List.length_replicate, List.length_drop]; omega)) (fun p10 hpp10 hzp10 hcp10 => ?_)
    refine WL.pureG rfl rfl rfl rfl rfl ((by first | exact PV.indexAddr hpp10 rfl rfl T.sl28 | exact PV.indexAddr hpp10 rfl (by rw [← hzp10]; rfl) T.sl28)) ?_
    refine WL.pureG rfl rfl rfl rfl rfl ((by first | exact PV.load0 T.na2 rfl (by first | exact Cells.up (by assumption) hB | exact Bx.cells (by assumption) | assumption) (Ext.refl _) rfl | exact PV.load1 T.na2 rfl (by first | exact Cells.up (by assumption) hB | exact Bx.cells (by assumption) | assumption) (Ext.refl _) rfl)) ?_
    refine WL.pureG rfl rfl rfl rfl rfl (PV.lss rfl rfl) ?_
    refine WL.pureG rfl rfl rfl rfl rfl (PV.move rfl) ?_
    refine WL.split (t := 314) rfl (fun hc23 => ?_) (fun hc23 => ?_)
    · skip
      try simp only [nq] at hc23
      exfalso; have hle9 := hle (by omega); first | omega | (have h8 := of_decide_eq_true hc23; omega)
    try simp only [nq] at hc23
    refine WL.pureG rfl rfl rfl rfl rfl (PV.move rfl) ?_
    first
      | refine WL.atO (x := .tmp 315) (y := .const (.int .i64 0)) (f := VI) (0) rfl rfl ho35 (by first | omega | (simp only [List.length_set]; omega) | (simp only [List.length_append, List.length_take, List.length_replicate, List.length_drop]; omega)) (fun p11 hpp11 hcp11 => ?_)
      | refine WL.atOZ (x := .tmp 315) (y := .const (.int .i64 0)) (f := VI) (0) rfl rfl ho35 (by first | omega | (simp only [List.length_set]; omega) | (simp only [List.length_append, List.length_take, List.length_replicate, List.length_drop]; omega)) (fun p11 hpp11 hzp11 hcp11 => ?_)
    refine WL.pureG rfl rfl rfl rfl rfl ((by first | exact PV.indexAddr hpp11 rfl rfl T.sl28 | exact PV.indexAddr hpp11 rfl (by rw [← hzp11]; rfl) T.sl28)) ?_
    refine WL.pureG rfl rfl rfl rfl rfl ((by first | exact PV.load0 T.na2 rfl (by first | exact Cells.up (by assumption) hB | exact Bx.cells (by assumption) | assumption) (Ext.refl _) rfl | exact PV.load1 T.na2 rfl (by first | exact Cells.up (by assumption) hB | exact Bx.cells (by assumption) | assumption) (Ext.refl _) rfl)) ?_
    refine WL.pureG rfl rfl rfl rfl rfl (PV.move rfl) ?_
    refine WL.pureG rfl rfl rfl rfl rfl (PV.gtr rfl rfl) ?_
    refine WL.pureG rfl rfl rfl rfl rfl (PV.pickF rfl rfl) ?_
    refine WL.pureG rfl rfl rfl rfl rfl (PV.pickT rfl rfl) ?_
    refine WL.pure rfl rfl rfl (PV.pickF rfl rfl) ?_
    refine WL.nilS ?_
    refine CW.cond rfl (fun hc24 => ?_) (fun hc24 => ?_)
    · skip
      try simp only [nq] at hc24
      exfalso; first | (revert hc24; simp; done) | (have hle9 := hle (by omega); first | omega | (have h8 := of_decide_eq_true hc24; omega))
    try simp only [nq] at hc24
    refine CW.skip ?_
    exact NQ.cut (ρ := []) ⟨rfl, rfl, rfl, rfl, rfl, rfl, rfl, rfl, rfl, trivial⟩ ⟨(), rfl, hBc, trivial⟩
  rintro _ wc4 ⟨_, rfl, hXc, _⟩
  have hB := hB.trans hXc
  have ho3 := ho3.up hXc
  have hb6 := hb6.up hXc
  have ho9 := ho9.up hXc
  have hb12 := hb12.up hXc
  have ho15 := ho15.up hXc
  have ho18 := ho18.up hXc
  have ho22 := ho22.up hXc
  have ho23 := ho23.up hXc
  have hb24 := hb24.up hXc
  have ho25 := ho25.up hXc
  have ho27 := ho27.up hXc
  have hb34 := hb34.up hXc
  have ho35 := ho35.up hXc
  refine CW.seq ?_
  refine CW.reg ?_
  refine WL.pure rfl rfl rfl (PV.loadA T.ag33 rfl hb6.cells (Ext.refl _) rfl) ?_
  refine WL.op rfl (OpK.call rfl T.cf35 rfl (c_impl_CheapWord_y (Osn.rdR ho3)) (fun rv11 w36 hR => ?_))
  obtain ⟨hXw36, cw37, pr38, ok39, v36, og36, rfl, hm40, ho36, hq36⟩ := hR
  have hl36 := Lo.up hq36 hB
  have hd3_36 := Dj.lo ho3.ltO hq36
  have hd6_36 := Dj.lo hb6.ltO hq36
  have hd9_36 := Dj.lo ho9.ltO hq36
  have hd12_36 := Dj.lo hb12.ltO hq36
  have hd15_36 := Dj.lo ho15.ltO hq36
  have hd18_36 := Dj.lo ho18.ltO hq36
  have hd22_36 := Dj.lo ho22.ltO hq36
  have hd23_36 := Dj.lo ho23.ltO hq36
  have hd24_36 := Dj.lo hb24.ltO hq36
  have hd25_36 := Dj.lo ho25.ltO hq36
  have hd27_36 := Dj.lo ho27.ltO hq36
  have hd34_36 := Dj.lo hb34.ltO hq36
  have hd35_36 := Dj.lo ho35.ltO hq36
  have hB := hB.trans hXw36
  have ho3 := ho3.up hXw36
  have hb6 := hb6.up hXw36
  have ho9 := ho9.up hXw36
  have hb12 := hb12.up hXw36
  have ho15 := ho15.up hXw36
  have ho18 := ho18.up hXw36
  have ho22 := ho22.up hXw36
  have ho23 := ho23.up hXw36
  have hb24 := hb24.up hXw36
  have ho25 := ho25.up hXw36
  have ho27 := ho27.up hXw36
  have hb34 := hb34.up hXw36
  have ho35 := ho35.up hXw36
  refine WL.mv rfl rfl ?_
  refine WL.pure rfl rfl rfl (PV.extract rfl rfl) ?_
  refine WL.pure rfl rfl rfl (PV.extract rfl rfl) ?_
  refine WL.pure rfl rfl rfl (PV.extract rfl rfl) ?_
  refine WL.asg rfl rfl ?_
  refine WL.asg rfl rfl ?_
  refine WL.asg rfl rfl ?_
  refine WL.nilS ?_
  refine CW.cut (σk := [(0, _), (1, _), (5, _), (6, _), (8, _), (9, _), (11, _), (13, _), (33, _)]) (fun ρ wz => ∃ (_ : Unit), ρ = [] ∧ Ext w36 wz ∧ True) ⟨rfl, rfl, rfl, rfl, rfl, rfl, rfl, rfl, rfl, trivial⟩ ?_ ?_
  · skip
    have hB0 := Ext.refl w36
    have hBc := Ext.refl w36
    refine CW.seq ?_
    refine CW.reg ?_
    refine WL.mv rfl rfl ?_
    refine WL.nilS ?_
    refine CW.cond rfl (fun hc25 => ?_) (fun hc25 => ?_)
    · skip
      try simp only [nq] at hc25
      have hcw := hm40 (by assumption); have hcc := hcw.1
      refine CW.seq ?_
      refine CW.reg ?_
      refine WL.pure rfl rfl rfl (PV.loadA T.ag33 rfl hb6.cells (Ext.refl _) rfl) ?_
      refine WL.mv rfl rfl ?_
      refine WL.op rfl (OpK.callR rfl T.cf26 rfl (c_impl_ParseCost_y (Osn.rdR ho3) (Osl.rd ho36) (by assumption)) (fun w37 hXw37 => ?_))
      have hB := hB.trans hXw37
      have hBc := (by first | exact hBc.trans hXw37 | exact hB0.trans hXw37)
      have ho3 := ho3.up hXw37
      have hb6 := hb6.up hXw37
      have ho9 := ho9.up hXw37
      have hb12 := hb12.up hXw37
      have ho15 := ho15.up hXw37
      have ho18 := ho18.up hXw37
      have ho22 := ho22.up hXw37
      have ho23 := ho23.up hXw37
      have hb24 := hb24.up hXw37
      have ho25 := ho25.up hXw37
      have ho27 := ho27.up hXw37
      have hb34 := hb34.up hXw37
      have ho35 := ho35.up hXw37
      have ho36 := ho36.up hXw37
      refine WL.mv rfl rfl ?_
      refine WL.pure rfl rfl rfl (PV.extract rfl rfl) ?_
      refine WL.pure rfl rfl rfl (PV.extract rfl rfl) ?_
      refine WL.asg rfl rfl ?_
      refine WL.asg rfl rfl ?_
      refine WL.nilS ?_
      refine CW.seq ?_
      refine CW.reg ?_
      refine WL.mv rfl rfl ?_
      refine WL.pure rfl rfl rfl (PV.not rfl) ?_
      refine WL.mv rfl rfl ?_
      refine WL.pureG rfl rfl rfl rfl rfl (PV.move rfl) ?_
      refine WL.pureG rfl rfl rfl rfl rfl (PV.move rfl) ?_
      refine WL.pureG rfl rfl rfl rfl rfl (PV.neq rfl rfl) ?_
      refine WL.pure rfl rfl rfl (PV.pickF rfl rfl) ?_
      refine WL.mv rfl rfl ?_
      refine WL.split (t := 343) rfl (fun hc26 => ?_) (fun hc26 => ?_)
      · skip
        try simp only [nq] at hc26
        exfalso; revert hc26; rw [hcw.2.1]; simp
      try simp only [nq] at hc26
      refine WL.pureG rfl rfl rfl rfl rfl (PV.move rfl) ?_
      refine WL.pureG rfl rfl rfl rfl rfl (PV.move rfl) ?_
      first
        | refine WL.atO (x := .tmp 345) (y := .const (.int .i64 0)) (f := VI) (0) rfl rfl ho35 (by first | omega | (simp only [List.length_set]; omega) | (simp only [List.length_append, List.length_take, List.length_replicate, List.length_drop]; omega)) (fun p12 hpp12 hcp12 => ?_)
        | refine WL.atOZ (x := .tmp 345) (y := .const (.int .i64 0)) (f := VI) (0) rfl rfl ho35 (by first | omega | (simp only [List.length_set]; omega) | (simp only [List.length_append, List.length_take, List.length_replicate, List.length_drop]; omega)) (fun p12 hpp12 hzp12 hcp12 => ?_)
      refine WL.pureG rfl rfl rfl rfl rfl ((by first | exact PV.indexAddr hpp12 rfl rfl T.sl28 | exact PV.indexAddr hpp12 rfl (by rw [← hzp12]; rfl) T.sl28)) ?_
      refine WL.pureG rfl rfl rfl rfl rfl ((by first | exact PV.load0 T.na2 rfl (by first | exact Cells.up (by assumption) hB | exact Bx.cells (by assumption) | assumption) (Ext.refl _) rfl | exact PV.load1 T.na2 rfl (by first | exact Cells.up (by assumption) hB | exact Bx.cells (by assumption) | assumption) (Ext.refl _) rfl)) ?_
      refine WL.pureG rfl rfl rfl rfl rfl (PV.neq rfl rfl) ?_
      refine WL.pure rfl rfl rfl (PV.pickF rfl rfl) ?_
      refine WL.nilS ?_
      refine CW.cond rfl (fun hc27 => ?_) (fun hc27 => ?_)
      · skip
        try simp only [nq] at hc27
        exfalso; revert hc27; rw [hcw.2.2]; simp
      try simp only [nq] at hc27
      refine CW.skip ?_
      exact NQ.cut (ρ := []) ⟨rfl, rfl, rfl, rfl, rfl, rfl, rfl, rfl, rfl, trivial⟩ ⟨(), rfl, hBc, trivial⟩
    try simp only [nq] at hc25
    refine CW.skip ?_
    exact NQ.cut (ρ := []) ⟨rfl, rfl, rfl, rfl, rfl, rfl, rfl, rfl, rfl, trivial⟩ ⟨(), rfl, hBc, trivial⟩
  rintro _ wc5 ⟨_, rfl, hXc, _⟩
  have hB := hB.trans hXc
  have ho3 := ho3.up hXc
  have hb6 := hb6.up hXc
  have ho9 := ho9.up hXc
  have hb12 := hb12.up hXc
  have ho15 := ho15.up hXc
  have ho18 := ho18.up hXc
  have ho22 := ho22.up hXc
  have ho23 := ho23.up hXc
  have hb24 := hb24.up hXc
  have ho25 := ho25.up hXc
  have ho27 := ho27.up hXc
  have hb34 := hb34.up hXc
  have ho35 := ho35.up hXc
  have ho36 := ho36.up hXc
  refine CW.seq ?_
  refine CW.reg ?_
  have hul := useful_len hm4
  refine WL.pure rfl rfl rfl (PV.loadA T.ag33 rfl hb6.cells (Ext.refl _) rfl) ?_
  refine WL.op rfl (OpK.call rfl T.cf36 rfl (c_impl_UsefulRules_y (Osn.rdR ho3) (by assumption)) (fun rv12 w38 hR => ?_))
  obtain ⟨hXw38, v41, og41, rfl, ho41, hq41⟩ := hR
  have hl41 := Lo.up hq41 hB
  have hd3_41 := Dj.lo ho3.ltO hq41
  have hd6_41 := Dj.lo hb6.ltO hq41
  have hd9_41 := Dj.lo ho9.ltO hq41
  have hd12_41 := Dj.lo hb12.ltO hq41
  have hd15_41 := Dj.lo ho15.ltO hq41
  have hd18_41 := Dj.lo ho18.ltO hq41
  have hd22_41 := Dj.lo ho22.ltO hq41
  have hd23_41 := Dj.lo ho23.ltO hq41
  have hd24_41 := Dj.lo hb24.ltO hq41
  have hd25_41 := Dj.lo ho25.ltO hq41
  have hd27_41 := Dj.lo ho27.ltO hq41
  have hd34_41 := Dj.lo hb34.ltO hq41
  have hd35_41 := Dj.lo ho35.ltO hq41
  have hd36_41 := Dj.lo ho36.ltO hq41
  have hB := hB.trans hXw38
  have ho3 := ho3.up hXw38
  have hb6 := hb6.up hXw38
  have ho9 := ho9.up hXw38
  have hb12 := hb12.up hXw38
  have ho15 := ho15.up hXw38
  have ho18 := ho18.up hXw38
  have ho22 := ho22.up hXw38
  have ho23 := ho23.up hXw38
  have hb24 := hb24.up hXw38
  have ho25 := ho25.up hXw38
  have ho27 := ho27.up hXw38
  have hb34 := hb34.up hXw38
  have ho35 := ho35.up hXw38
  have ho36 := ho36.up hXw38
  refine WL.mv rfl rfl ?_
  refine WL.pure rfl rfl rfl (PV.extract rfl rfl) ?_
  refine WL.pure rfl rfl rfl (PV.extract rfl rfl) ?_
  refine WL.asg rfl rfl ?_
  refine WL.asg rfl rfl ?_
  refine WL.nilS ?_
  refine CW.seq ?_
  refine CW.seq ?_
  refine CW.reg ?_
  refine WL.mv rfl rfl ?_
  refine WL.pure rfl rfl rfl (PV.not rfl) ?_
  refine WL.mv rfl rfl ?_
  refine WL.pureG rfl rfl rfl rfl rfl (PV.move rfl) ?_
  refine WL.pureG rfl rfl rfl rfl rfl ((PV.lenOs rfl ho41 T.sl28)) ?_
  refine WL.pureG rfl rfl rfl rfl rfl (PV.gtr rfl rfl) ?_
  refine WL.pureG rfl rfl rfl rfl rfl (PV.move rfl) ?_
  first
    | refine WL.atO (x := .tmp 361) (y := .const (.int .i64 0)) (f := VI) (0) rfl rfl ho35 (by first | omega | (simp only [List.length_set]; omega) | (simp only [List.length_append, List.length_take, List.length_replicate, List.length_drop]; omega)) (fun p13 hpp13 hcp13 => ?_)
    | refine WL.atOZ (x := .tmp 361) (y := .const (.int .i64 0)) (f := VI) (0) rfl rfl ho35 (by first | omega | (simp only [List.length_set]; omega) | (simp only [List.length_append, List.length_take, List.length_replicate, List.length_drop]; omega)) (fun p13 hpp13 hzp13 hcp13 => ?_)
  refine WL.pureG rfl rfl rfl rfl rfl ((by first | exact PV.indexAddr hpp13 rfl rfl T.sl28 | exact PV.indexAddr hpp13 rfl (by rw [← hzp13]; rfl) T.sl28)) ?_
  refine WL.pureG rfl rfl rfl rfl rfl ((by first | exact PV.load0 T.na2 rfl (by first | exact Cells.up (by assumption) hB | exact Bx.cells (by assumption) | assumption) (Ext.refl _) rfl | exact PV.load1 T.na2 rfl (by first | exact Cells.up (by assumption) hB | exact Bx.cells (by assumption) | assumption) (Ext.refl _) rfl)) ?_
  refine WL.pureG rfl rfl rfl rfl rfl (PV.geq rfl rfl) ?_
  refine WL.pureG rfl rfl rfl rfl rfl (PV.neqB T.bl4 rfl rfl) ?_
  refine WL.pure rfl rfl rfl (PV.pickF rfl rfl) ?_
  refine WL.nilS ?_
  refine CW.cond rfl (fun hc28 => ?_) (fun hc28 => ?_)
  · skip
    try simp only [nq] at hc28
    exfalso; have hd9 : decide (0 < ((usefL (1 + at8 ys (Int.toNat 41) 3) rs2).length : Int)) = decide (0 ≤ (allC (1 + at8 ys (Int.toNat 41) 3) rs2).2.getD 0 0) := decide_eq_decide.2 hul; revert hc28; rw [hd9]; simp
  try simp only [nq] at hc28
  refine CW.skipS ?_
  refine CW.cut (σk := [(0, _), (1, _), (5, _), (6, _), (8, _), (9, _)]) (fun ρ wz => ∃ (_ : Unit), ρ = [] ∧ Ext w38 wz ∧ True) ⟨rfl, rfl, rfl, rfl, rfl, rfl, trivial⟩ ?_ ?_
  · skip
    have hB0 := Ext.refl w38
    have hBc := Ext.refl w38
    refine CW.seq ?_
    refine CW.reg ?_
    refine WL.mv rfl rfl ?_
    refine WL.nilS ?_
    refine CW.cond rfl (fun hc29 => ?_) (fun hc29 => ?_)
    · skip
      try simp only [nq] at hc29
      have hc0 : 0 ≤ (leastC rs2 ws14 0 ws14.length 0) := (by first | assumption | exact of_decide_eq_true (by assumption) | omega); have hTL := (trK_of hm4 hc0).ln; rw [onT_yes (decide_eq_true hc0)] at ho18
      refine CW.seq ?_
      refine CW.reg ?_
      refine WL.asg rfl rfl ?_
      refine WL.nilS ?_
      refine CW.block ?_
      refine CW.loop (σk := [(0, _), (1, _), (5, _), (6, _), (8, _), (9, _), (11, _), (40, _)]) (fun ρ wz m => ∃ (k : Nat), ρ = [(42, .int .i64 (k : Nat))] ∧ m = (treeL rs2 ws14 0 ws14.length 0).length - k ∧ UpdL [] w38 wz ∧ (k ≤ (treeL rs2 ws14 0 ws14.length 0).length)) (ρ₀ := [(42, _)]) (m₀ := _) ⟨rfl, rfl, rfl, rfl, rfl, rfl, rfl, rfl, rfl, trivial⟩ ⟨0, rfl, rfl, (UpdL.refl _ _), (by first | omega | rfl | (simp; done) | assumption | (simp_all; done))⟩ ?_
      rintro _ wl2 _ ⟨k, rfl, rfl, hU1, hk⟩
      have ho3 := ho3.loop hU1 trivial
      have hb6 := hb6.loop hU1 trivial
      have ho9 := ho9.loop hU1 trivial
      have hb12 := hb12.loop hU1 trivial
      have ho15 := ho15.loop hU1 trivial
      have ho18 := ho18.loop hU1 trivial
      have ho22 := ho22.loop hU1 trivial
      have ho23 := ho23.loop hU1 trivial
      have hb24 := hb24.loop hU1 trivial
      have ho25 := ho25.loop hU1 trivial
      have ho27 := ho27.loop hU1 trivial
      have hb34 := hb34.loop hU1 trivial
      have ho35 := ho35.loop hU1 trivial
      have ho36 := ho36.loop hU1 trivial
      have ho41 := ho41.loop hU1 trivial
      have hB := hB.loop hU1 trivial
      have hBc := hBc.loop hU1 trivial
      refine CW.seq ?_
      refine CW.seq ?_
      refine CW.reg ?_
      refine WL.mv rfl rfl ?_
      refine WL.mv rfl rfl ?_
      refine WL.pure rfl rfl rfl ((PV.lenOs rfl ho18 T.sl28)) ?_
      refine WL.pure rfl rfl rfl (PV.lss rfl rfl) ?_
      refine WL.nilS ?_
      refine CW.cond rfl (fun hc30 => ?_) (fun hc30 => ?_)
      · skip
        try simp only [nq] at hc30
        have hui := useful_in hm4 hc0 (k := k) (by omega)
        refine CW.skipS ?_
        refine CW.seq ?_
        refine CW.block ?_
        refine CW.seq ?_
        refine CW.reg ?_
        refine WL.mv rfl rfl ?_
        refine WL.mv rfl rfl ?_
        refine WL.mv rfl rfl ?_
        first
          | refine WL.atO (x := .tmp 375) (y := .tmp 376) (f := VI) (0) rfl rfl ho18 (by first | omega | (simp only [List.length_set]; omega) | (simp only [List.length_append, List.length_take, List.length_replicate, List.length_drop]; omega)) (fun p14 hpp14 hcp14 => ?_)
          | refine WL.atOZ (x := .tmp 375) (y := .tmp 376) (f := VI) (0) rfl rfl ho18 (by first | omega | (simp only [List.length_set]; omega) | (simp only [List.length_append, List.length_take, List.length_replicate, List.length_drop]; omega)) (fun p14 hpp14 hzp14 hcp14 => ?_)
        refine WL.pure rfl rfl rfl ((by first | exact PV.indexAddr hpp14 rfl rfl T.sl28 | exact PV.indexAddr hpp14 rfl (by rw [← hzp14]; rfl) T.sl28)) ?_
        refine WL.pure rfl rfl rfl ((by first | exact PV.load0 T.na2 rfl (by first | exact Cells.up (by assumption) hB | exact Bx.cells (by assumption) | assumption) (Ext.refl _) rfl | exact PV.load1 T.na2 rfl (by first | exact Cells.up (by assumption) hB | exact Bx.cells (by assumption) | assumption) (Ext.refl _) rfl)) ?_
        refine WL.op rfl (OpK.callR rfl T.cf37 rfl (c_laws_r8Has (Osl.rd ho41) (by assumption)) (fun w39 hXw39 => ?_))
        have hB := hB.trans hXw39
        have hBc := (by first | exact hBc.trans hXw39 | exact hB0.trans hXw39)
        have ho3 := ho3.up hXw39
        have hb6 := hb6.up hXw39
        have ho9 := ho9.up hXw39
        have hb12 := hb12.up hXw39
        have ho15 := ho15.up hXw39
        have ho18 := ho18.up hXw39
        have ho22 := ho22.up hXw39
        have ho23 := ho23.up hXw39
        have hb24 := hb24.up hXw39
        have ho25 := ho25.up hXw39
        have ho27 := ho27.up hXw39
        have hb34 := hb34.up hXw39
        have ho35 := ho35.up hXw39
        have ho36 := ho36.up hXw39
        have ho41 := ho41.up hXw39
        have hU1 := hU1.ext hXw39
        refine WL.pure rfl rfl rfl (PV.not rfl) ?_
        refine WL.nilS ?_
        refine CW.condF rfl ?_
        refine CW.skip ?_
        refine NQ.block ?_
        refine NQ.then ?_
        refine CW.reg ?_
        refine WL.mv rfl rfl ?_
        refine WL.pure rfl rfl rfl (PV.add rfl rfl (by constructor <;> omega)) ?_
        refine WL.asg rfl rfl ?_
        refine WL.nil ?_
        refine NQ.next (ρ := [(42, _)]) ⟨rfl, rfl, rfl, rfl, rfl, rfl, rfl, rfl, rfl, trivial⟩ ?_
        exact ⟨_, ⟨k + 1, rfl, rfl, hU1, (by first | omega | assumption | (simp_all; done) | (simp_all; omega))⟩, by omega⟩
      try simp only [nq] at hc30
      refine CW.exit ?_
      refine XQ.then ?_
      refine XQ.then ?_
      refine XQ.here ?_
      exact NQ.cut (ρ := []) ⟨rfl, rfl, rfl, rfl, rfl, rfl, trivial⟩ ⟨(), rfl, hBc, trivial⟩
    try simp only [nq] at hc29
    refine CW.skip ?_
    exact NQ.cut (ρ := []) ⟨rfl, rfl, rfl, rfl, rfl, rfl, trivial⟩ ⟨(), rfl, hBc, trivial⟩
  rintro _ wc6 ⟨_, rfl, hXc, _⟩
  have hB := hB.trans hXc
  have ho3 := ho3.up hXc
  have hb6 := hb6.up hXc
  have ho9 := ho9.up hXc
  have hb12 := hb12.up hXc
  have ho15 := ho15.up hXc
  have ho18 := ho18.up hXc
  have ho22 := ho22.up hXc
  have ho23 := ho23.up hXc
  have hb24 := hb24.up hXc
  have ho25 := ho25.up hXc
  have ho27 := ho27.up hXc
  have hb34 := hb34.up hXc
  have ho35 := ho35.up hXc
  have ho36 := ho36.up hXc
  have ho41 := ho41.up hXc
  refine CW.seq ?_
  refine CW.reg ?_
  refine WL.mv rfl rfl ?_
  refine WL.mv rfl rfl ?_
  refine WL.op rfl (OpK.callR rfl T.cf23 rfl (c_laws_r8At (by first | assumption | exact Rd.up (by assumption) hB | exact Osl.rd (by assumption) | exact Osn.rdR (by assumption)) (by first | assumption | omega | (simp only [marks_len]; omega)) (by first | assumption | omega | (simp only [marks_len]; omega))) (fun w40 hXw40 => ?_))
  have hB := hB.trans hXw40
  have ho3 := ho3.up hXw40
  have hb6 := hb6.up hXw40
  have ho9 := ho9.up hXw40
  have hb12 := hb12.up hXw40
  have ho15 := ho15.up hXw40
  have ho18 := ho18.up hXw40
  have ho22 := ho22.up hXw40
  have ho23 := ho23.up hXw40
  have hb24 := hb24.up hXw40
  have ho25 := ho25.up hXw40
  have ho27 := ho27.up hXw40
  have hb34 := hb34.up hXw40
  have ho35 := ho35.up hXw40
  have ho36 := ho36.up hXw40
  have ho41 := ho41.up hXw40
  refine WL.pure rfl rfl rfl (PV.add rfl rfl (by constructor <;> omega)) ?_
  refine WL.mv rfl rfl ?_
  refine WL.op rfl (OpK.call rfl T.cf38 rfl (c_spec_R8Plain hB (by first | assumption | exact Rd.up (by assumption) hB | exact Osl.rd (by assumption) | exact Osn.rdR (by assumption)) (by first | assumption | omega | (simp only [marks_len]; omega)) (by first | assumption | omega | (simp only [marks_len]; omega)) (by first | assumption | omega | (simp only [marks_len]; omega))) (fun rv13 w41 hR => ?_))
  obtain ⟨hUC42, x243, x344, v45, og45, v46, og46, rfl, hm47, ho45, hq45, ho46, hq46, hd45_46⟩ := hR
  have hl45 := Lo.up hq45 hB
  have hd3_45 := Dj.lo ho3.ltO hq45
  have hd6_45 := Dj.lo hb6.ltO hq45
  have hd9_45 := Dj.lo ho9.ltO hq45
  have hd12_45 := Dj.lo hb12.ltO hq45
  have hd15_45 := Dj.lo ho15.ltO hq45
  have hd18_45 := Dj.lo ho18.ltO hq45
  have hd22_45 := Dj.lo ho22.ltO hq45
  have hd23_45 := Dj.lo ho23.ltO hq45
  have hd24_45 := Dj.lo hb24.ltO hq45
  have hd25_45 := Dj.lo ho25.ltO hq45
  have hd27_45 := Dj.lo ho27.ltO hq45
  have hd34_45 := Dj.lo hb34.ltO hq45
  have hd35_45 := Dj.lo ho35.ltO hq45
  have hd36_45 := Dj.lo ho36.ltO hq45
  have hd41_45 := Dj.lo ho41.ltO hq45
  have hl46 := Lo.up hq46 hB
  have hd3_46 := Dj.lo ho3.ltO hq46
  have hd6_46 := Dj.lo hb6.ltO hq46
  have hd9_46 := Dj.lo ho9.ltO hq46
  have hd12_46 := Dj.lo hb12.ltO hq46
  have hd15_46 := Dj.lo ho15.ltO hq46
  have hd18_46 := Dj.lo ho18.ltO hq46
  have hd22_46 := Dj.lo ho22.ltO hq46
  have hd23_46 := Dj.lo ho23.ltO hq46
  have hd24_46 := Dj.lo hb24.ltO hq46
  have hd25_46 := Dj.lo ho25.ltO hq46
  have hd27_46 := Dj.lo ho27.ltO hq46
  have hd34_46 := Dj.lo hb34.ltO hq46
  have hd35_46 := Dj.lo ho35.ltO hq46
  have hd36_46 := Dj.lo ho36.ltO hq46
  have hd41_46 := Dj.lo ho41.ltO hq46
  have ho3 := ho3.loop hUC42 trivial
  have hb6 := hb6.loop hUC42 trivial
  have ho9 := ho9.loop hUC42 trivial
  have hb12 := hb12.loop hUC42 trivial
  have ho15 := ho15.loop hUC42 trivial
  have ho18 := ho18.loop hUC42 trivial
  have ho22 := ho22.loop hUC42 trivial
  have ho23 := ho23.loop hUC42 trivial
  have hb24 := hb24.loop hUC42 trivial
  have ho25 := ho25.loop hUC42 trivial
  have ho27 := ho27.loop hUC42 trivial
  have hb34 := hb34.loop hUC42 trivial
  have ho35 := ho35.loop hUC42 trivial
  have ho36 := ho36.loop hUC42 trivial
  have ho41 := ho41.loop hUC42 trivial
  have hB := hB.loop hUC42 trivial
  refine WL.op rfl (OpK.alloc rfl T.zv64 rfl (fun b48 w42 hXw42 hb48 hge48 => ?_))
  have hl48 := Lo.new hB hge48
  have hd3_48 := Dj.new ho3.ltO hge48
  have hd6_48 := Dj.new hb6.ltO hge48
  have hd9_48 := Dj.new ho9.ltO hge48
  have hd12_48 := Dj.new hb12.ltO hge48
  have hd15_48 := Dj.new ho15.ltO hge48
  have hd18_48 := Dj.new ho18.ltO hge48
  have hd22_48 := Dj.new ho22.ltO hge48
  have hd23_48 := Dj.new ho23.ltO hge48
  have hd24_48 := Dj.new hb24.ltO hge48
  have hd25_48 := Dj.new ho25.ltO hge48
  have hd27_48 := Dj.new ho27.ltO hge48
  have hd34_48 := Dj.new hb34.ltO hge48
  have hd35_48 := Dj.new ho35.ltO hge48
  have hd36_48 := Dj.new ho36.ltO hge48
  have hd41_48 := Dj.new ho41.ltO hge48
  have hd45_48 := Dj.new ho45.ltO hge48
  have hd46_48 := Dj.new ho46.ltO hge48
  have hB := hB.trans hXw42
  have ho3 := ho3.up hXw42
  have hb6 := hb6.up hXw42
  have ho9 := ho9.up hXw42
  have hb12 := hb12.up hXw42
  have ho15 := ho15.up hXw42
  have ho18 := ho18.up hXw42
  have ho22 := ho22.up hXw42
  have ho23 := ho23.up hXw42
  have hb24 := hb24.up hXw42
  have ho25 := ho25.up hXw42
  have ho27 := ho27.up hXw42
  have hb34 := hb34.up hXw42
  have ho35 := ho35.up hXw42
  have ho36 := ho36.up hXw42
  have ho41 := ho41.up hXw42
  have ho45 := ho45.up hXw42
  have ho46 := ho46.up hXw42
  refine WL.op rfl (OpK.storeA T.sz64 rfl rfl rfl rfl (by simp [Value.oneCell'] <;> first | done | (repeat' apply And.intro) <;> first | rfl | exact Osl.oneCell (by assumption) | exact Osn.oneCell (by assumption) | exact Rd.oneCell (by assumption) | exact Rd.oneCell (NL.rd (by assumption)) | assumption) hb48 (fun w43 hXw43 hb48 => ?_))
  have hB := hB.updL hXw43 hl48
  have ho3 := ho3.updD hXw43 hd3_48
  have hb6 := hb6.updD hXw43 hd6_48
  have ho9 := ho9.updD hXw43 hd9_48
  have hb12 := hb12.updD hXw43 hd12_48
  have ho15 := ho15.updD hXw43 hd15_48
  have ho18 := ho18.updD hXw43 hd18_48
  have ho22 := ho22.updD hXw43 hd22_48
  have ho23 := ho23.updD hXw43 hd23_48
  have hb24 := hb24.updD hXw43 hd24_48
  have ho25 := ho25.updD hXw43 hd25_48
  have ho27 := ho27.updD hXw43 hd27_48
  have hb34 := hb34.updD hXw43 hd34_48
  have ho35 := ho35.updD hXw43 hd35_48
  have ho36 := ho36.updD hXw43 hd36_48
  have ho41 := ho41.updD hXw43 hd41_48
  have ho45 := ho45.updD hXw43 hd45_48
  have ho46 := ho46.updD hXw43 hd46_48
  refine WL.nilS ?_
  refine CW.seq ?_
  refine CW.reg ?_
  have hok9 : okG (1 + at8 ys (Int.toNat 44) 4) (1 + at8 ys (Int.toNat 40) 2) x243 x344 = true := okG_small hm47 (by omega) (by omega); have hgm9 : gramV ((1 + at8 ys (Int.toNat 44) 4) + (1 + at8 ys (Int.toNat 40) 2)) (1 + at8 ys (Int.toNat 40) 2) (allG (1 + at8 ys (Int.toNat 44) 4) (1 + at8 ys (Int.toNat 40) 2) x243 x344) := madeG_v hm47 (by omega) (by omega); have hcm9 : canB ((1 + at8 ys (Int.toNat 44) 4) + (1 + at8 ys (Int.toNat 40) 2)) (1 + at8 ys (Int.toNat 40) 2) (allG (1 + at8 ys (Int.toNat 44) 4) (1 + at8 ys (Int.toNat 40) 2) x243 x344) ws14 = true := can_of hgm9 hwb hwl.1
  refine WL.pure rfl rfl rfl (PV.loadA T.ag64 rfl hb48.cells (Ext.refl _) rfl) ?_
  refine WL.op rfl (OpK.call rfl T.cf39 rfl (c_impl_GrammarOf_y (Osl.rd ho45) (Osl.rd ho46) (by first | assumption | omega | (simp only [marks_len]; omega))) (fun rv14 w44 hR => ?_))
  obtain ⟨hXw44, v49, og49, rfl, ho49, hq49⟩ := hR
  have hl49 := Lo.up hq49 hB
  have hd3_49 := Dj.lo ho3.ltO hq49
  have hd6_49 := Dj.lo hb6.ltO hq49
  have hd9_49 := Dj.lo ho9.ltO hq49
  have hd12_49 := Dj.lo hb12.ltO hq49
  have hd15_49 := Dj.lo ho15.ltO hq49
  have hd18_49 := Dj.lo ho18.ltO hq49
  have hd22_49 := Dj.lo ho22.ltO hq49
  have hd23_49 := Dj.lo ho23.ltO hq49
  have hd24_49 := Dj.lo hb24.ltO hq49
  have hd25_49 := Dj.lo ho25.ltO hq49
  have hd27_49 := Dj.lo ho27.ltO hq49
  have hd34_49 := Dj.lo hb34.ltO hq49
  have hd35_49 := Dj.lo ho35.ltO hq49
  have hd36_49 := Dj.lo ho36.ltO hq49
  have hd41_49 := Dj.lo ho41.ltO hq49
  have hd45_49 := Dj.lo ho45.ltO hq49
  have hd46_49 := Dj.lo ho46.ltO hq49
  have hd48_49 := Dj.lo hb48.ltO hq49
  have hB := hB.trans hXw44
  have ho3 := ho3.up hXw44
  have hb6 := hb6.up hXw44
  have ho9 := ho9.up hXw44
  have hb12 := hb12.up hXw44
  have ho15 := ho15.up hXw44
  have ho18 := ho18.up hXw44
  have ho22 := ho22.up hXw44
  have ho23 := ho23.up hXw44
  have hb24 := hb24.up hXw44
  have ho25 := ho25.up hXw44
  have ho27 := ho27.up hXw44
  have hb34 := hb34.up hXw44
  have ho35 := ho35.up hXw44
  have ho36 := ho36.up hXw44
  have ho41 := ho41.up hXw44
  have ho45 := ho45.up hXw44
  have ho46 := ho46.up hXw44
  have hb48 := hb48.up hXw44
  refine WL.mv rfl rfl ?_
  refine WL.pure rfl rfl rfl (PV.extract rfl rfl) ?_
  refine WL.pure rfl rfl rfl (PV.extract rfl rfl) ?_
  refine WL.op rfl (OpK.alloc rfl T.zv33 rfl (fun b50 w45 hXw45 hb50 hge50 => ?_))
  have hl50 := Lo.new hB hge50
  have hd3_50 := Dj.new ho3.ltO hge50
  have hd6_50 := Dj.new hb6.ltO hge50
  have hd9_50 := Dj.new ho9.ltO hge50
  have hd12_50 := Dj.new hb12.ltO hge50
  have hd15_50 := Dj.new ho15.ltO hge50
  have hd18_50 := Dj.new ho18.ltO hge50
  have hd22_50 := Dj.new ho22.ltO hge50
  have hd23_50 := Dj.new ho23.ltO hge50
  have hd24_50 := Dj.new hb24.ltO hge50
  have hd25_50 := Dj.new ho25.ltO hge50
  have hd27_50 := Dj.new ho27.ltO hge50
  have hd34_50 := Dj.new hb34.ltO hge50
  have hd35_50 := Dj.new ho35.ltO hge50
  have hd36_50 := Dj.new ho36.ltO hge50
  have hd41_50 := Dj.new ho41.ltO hge50
  have hd45_50 := Dj.new ho45.ltO hge50
  have hd46_50 := Dj.new ho46.ltO hge50
  have hd48_50 := Dj.new hb48.ltO hge50
  have hd49_50 := Dj.new ho49.ltO hge50
  have hB := hB.trans hXw45
  have ho3 := ho3.up hXw45
  have hb6 := hb6.up hXw45
  have ho9 := ho9.up hXw45
  have hb12 := hb12.up hXw45
  have ho15 := ho15.up hXw45
  have ho18 := ho18.up hXw45
  have ho22 := ho22.up hXw45
  have ho23 := ho23.up hXw45
  have hb24 := hb24.up hXw45
  have ho25 := ho25.up hXw45
  have ho27 := ho27.up hXw45
  have hb34 := hb34.up hXw45
  have ho35 := ho35.up hXw45
  have ho36 := ho36.up hXw45
  have ho41 := ho41.up hXw45
  have ho45 := ho45.up hXw45
  have ho46 := ho46.up hXw45
  have hb48 := hb48.up hXw45
  have ho49 := ho49.up hXw45
  refine WL.op rfl (OpK.storeA T.sz33 rfl rfl rfl rfl (by simp [Value.oneCell'] <;> first | done | (repeat' apply And.intro) <;> first | rfl | exact Osl.oneCell (by assumption) | exact Osn.oneCell (by assumption) | exact Rd.oneCell (by assumption) | exact Rd.oneCell (NL.rd (by assumption)) | assumption) hb50 (fun w46 hXw46 hb50 => ?_))
  have hB := hB.updL hXw46 hl50
  have ho3 := ho3.updD hXw46 hd3_50
  have hb6 := hb6.updD hXw46 hd6_50
  have ho9 := ho9.updD hXw46 hd9_50
  have hb12 := hb12.updD hXw46 hd12_50
  have ho15 := ho15.updD hXw46 hd15_50
  have ho18 := ho18.updD hXw46 hd18_50
  have ho22 := ho22.updD hXw46 hd22_50
  have ho23 := ho23.updD hXw46 hd23_50
  have hb24 := hb24.updD hXw46 hd24_50
  have ho25 := ho25.updD hXw46 hd25_50
  have ho27 := ho27.updD hXw46 hd27_50
  have hb34 := hb34.updD hXw46 hd34_50
  have ho35 := ho35.updD hXw46 hd35_50
  have ho36 := ho36.updD hXw46 hd36_50
  have ho41 := ho41.updD hXw46 hd41_50
  have ho45 := ho45.updD hXw46 hd45_50
  have ho46 := ho46.updD hXw46 hd46_50
  have hb48 := hb48.updD hXw46 hd48_50
  have ho49 := ho49.updD hXw46 hd49_50
  refine WL.asg rfl rfl ?_
  refine WL.nilS ?_
  refine CW.seq ?_
  refine CW.seq ?_
  refine CW.reg ?_
  refine WL.mv rfl rfl ?_
  refine WL.pure rfl rfl rfl (PV.not rfl) ?_
  refine WL.nilS ?_
  refine CW.condF rfl ?_
  refine CW.skipS ?_
  refine CW.seq ?_
  refine CW.reg ?_
  refine WL.pure rfl rfl rfl (PV.loadA T.ag64 rfl hb48.cells (Ext.refl _) rfl) ?_
  refine WL.mv rfl rfl ?_
  refine WL.op rfl (OpK.callR rfl T.cf40 rfl (c_impl_ReadsWord (Osl.rd ho45) (Osl.rd ho46) (Osl.rd ho15) (by first | assumption | omega | (simp only [marks_len]; omega)) (by first | assumption | omega | (simp only [marks_len]; omega))) (fun w47 hXw47 => ?_))
  have hB := hB.trans hXw47
  have ho3 := ho3.up hXw47
  have hb6 := hb6.up hXw47
  have ho9 := ho9.up hXw47
  have hb12 := hb12.up hXw47
  have ho15 := ho15.up hXw47
  have ho18 := ho18.up hXw47
  have ho22 := ho22.up hXw47
  have ho23 := ho23.up hXw47
  have hb24 := hb24.up hXw47
  have ho25 := ho25.up hXw47
  have ho27 := ho27.up hXw47
  have hb34 := hb34.up hXw47
  have ho35 := ho35.up hXw47
  have ho36 := ho36.up hXw47
  have ho41 := ho41.up hXw47
  have ho45 := ho45.up hXw47
  have ho46 := ho46.up hXw47
  have hb48 := hb48.up hXw47
  have ho49 := ho49.up hXw47
  have hb50 := hb50.up hXw47
  refine WL.mv rfl rfl ?_
  refine WL.pure rfl rfl rfl (PV.extract rfl rfl) ?_
  refine WL.pure rfl rfl rfl (PV.extract rfl rfl) ?_
  refine WL.asg rfl rfl ?_
  refine WL.asg rfl rfl ?_
  refine WL.nilS ?_
  refine CW.seq ?_
  refine CW.reg ?_
  refine WL.pure rfl rfl rfl (PV.loadA T.ag33 rfl hb50.cells (Ext.refl _) rfl) ?_
  refine WL.mv rfl rfl ?_
  refine WL.op rfl (OpK.callR rfl T.cf26 rfl (c_impl_ParseCost_y (Osn.rdR ho49) (Osl.rd ho15) (by assumption)) (fun w48 hXw48 => ?_))
  have hB := hB.trans hXw48
  have ho3 := ho3.up hXw48
  have hb6 := hb6.up hXw48
  have ho9 := ho9.up hXw48
  have hb12 := hb12.up hXw48
  have ho15 := ho15.up hXw48
  have ho18 := ho18.up hXw48
  have ho22 := ho22.up hXw48
  have ho23 := ho23.up hXw48
  have hb24 := hb24.up hXw48
  have ho25 := ho25.up hXw48
  have ho27 := ho27.up hXw48
  have hb34 := hb34.up hXw48
  have ho35 := ho35.up hXw48
  have ho36 := ho36.up hXw48
  have ho41 := ho41.up hXw48
  have ho45 := ho45.up hXw48
  have ho46 := ho46.up hXw48
  have hb48 := hb48.up hXw48
  have ho49 := ho49.up hXw48
  have hb50 := hb50.up hXw48
  refine WL.mv rfl rfl ?_
  refine WL.pure rfl rfl rfl (PV.extract rfl rfl) ?_
  refine WL.pure rfl rfl rfl (PV.extract rfl rfl) ?_
  refine WL.asg rfl rfl ?_
  refine WL.asg rfl rfl ?_
  refine WL.nilS ?_
  refine CW.seq ?_
  refine CW.reg ?_
  refine WL.mv rfl rfl ?_
  refine WL.op rfl (OpK.callR rfl T.cf23 rfl (c_laws_r8At (by first | assumption | exact Rd.up (by assumption) hB | exact Osl.rd (by assumption) | exact Osn.rdR (by assumption)) (by first | assumption | omega | (simp only [marks_len]; omega)) (by first | assumption | omega | (simp only [marks_len]; omega))) (fun w49 hXw49 => ?_))
  have hB := hB.trans hXw49
  have ho3 := ho3.up hXw49
  have hb6 := hb6.up hXw49
  have ho9 := ho9.up hXw49
  have hb12 := hb12.up hXw49
  have ho15 := ho15.up hXw49
  have ho18 := ho18.up hXw49
  have ho22 := ho22.up hXw49
  have ho23 := ho23.up hXw49
  have hb24 := hb24.up hXw49
  have ho25 := ho25.up hXw49
  have ho27 := ho27.up hXw49
  have hb34 := hb34.up hXw49
  have ho35 := ho35.up hXw49
  have ho36 := ho36.up hXw49
  have ho41 := ho41.up hXw49
  have ho45 := ho45.up hXw49
  have ho46 := ho46.up hXw49
  have hb48 := hb48.up hXw49
  have ho49 := ho49.up hXw49
  have hb50 := hb50.up hXw49
  refine WL.pure rfl rfl rfl (PV.add rfl rfl (by constructor <;> omega)) ?_
  refine WL.asg rfl rfl ?_
  refine WL.nilS ?_
  refine CW.seq ?_
  refine CW.reg ?_
  refine WL.pure rfl rfl rfl (PV.loadA T.ag33 rfl hb50.cells (Ext.refl _) rfl) ?_
  refine WL.mv rfl rfl ?_
  refine WL.op rfl (OpK.callR rfl T.cf41 rfl (c_impl_CountRead_y (Osn.rdR ho49) (by assumption) (by first | assumption | omega | (simp only [marks_len]; omega))) (fun w50 hXw50 => ?_))
  have hB := hB.trans hXw50
  have ho3 := ho3.up hXw50
  have hb6 := hb6.up hXw50
  have ho9 := ho9.up hXw50
  have hb12 := hb12.up hXw50
  have ho15 := ho15.up hXw50
  have ho18 := ho18.up hXw50
  have ho22 := ho22.up hXw50
  have ho23 := ho23.up hXw50
  have hb24 := hb24.up hXw50
  have ho25 := ho25.up hXw50
  have ho27 := ho27.up hXw50
  have hb34 := hb34.up hXw50
  have ho35 := ho35.up hXw50
  have ho36 := ho36.up hXw50
  have ho41 := ho41.up hXw50
  have ho45 := ho45.up hXw50
  have ho46 := ho46.up hXw50
  have hb48 := hb48.up hXw50
  have ho49 := ho49.up hXw50
  have hb50 := hb50.up hXw50
  refine WL.mv rfl rfl ?_
  refine WL.pure rfl rfl rfl (PV.extract rfl rfl) ?_
  refine WL.pure rfl rfl rfl (PV.extract rfl rfl) ?_
  refine WL.asg rfl rfl ?_
  refine WL.asg rfl rfl ?_
  refine WL.nilS ?_
  refine CW.seq ?_
  refine CW.reg ?_
  refine WL.pure rfl rfl rfl (PV.loadA T.ag64 rfl hb48.cells (Ext.refl _) rfl) ?_
  refine WL.mv rfl rfl ?_
  refine WL.op rfl (OpK.callR rfl T.cf42 rfl (c_impl_CountWords (Osl.rd ho45) (Osl.rd ho46) (by first | assumption | omega | (simp only [marks_len]; omega)) (by first | assumption | omega | (simp only [marks_len]; omega))) (fun w51 hXw51 => ?_))
  have hB := hB.trans hXw51
  have ho3 := ho3.up hXw51
  have hb6 := hb6.up hXw51
  have ho9 := ho9.up hXw51
  have hb12 := hb12.up hXw51
  have ho15 := ho15.up hXw51
  have ho18 := ho18.up hXw51
  have ho22 := ho22.up hXw51
  have ho23 := ho23.up hXw51
  have hb24 := hb24.up hXw51
  have ho25 := ho25.up hXw51
  have ho27 := ho27.up hXw51
  have hb34 := hb34.up hXw51
  have ho35 := ho35.up hXw51
  have ho36 := ho36.up hXw51
  have ho41 := ho41.up hXw51
  have ho45 := ho45.up hXw51
  have ho46 := ho46.up hXw51
  have hb48 := hb48.up hXw51
  have ho49 := ho49.up hXw51
  have hb50 := hb50.up hXw51
  refine WL.mv rfl rfl ?_
  refine WL.pure rfl rfl rfl (PV.extract rfl rfl) ?_
  refine WL.pure rfl rfl rfl (PV.extract rfl rfl) ?_
  refine WL.asg rfl rfl ?_
  refine WL.asg rfl rfl ?_
  refine WL.nilS ?_
  refine CW.seq ?_
  refine CW.draw T.mixed (by kernel_rfl) (fun _ _ _ _ _ h => h) (fun w8 w9 => Upd none w8 w9) 13 (.take 0 (.take 1 (.take 2 (.take 4 (.fork 3 5 (.must 5 (.take 6 (.must 7 (.take 8 (.take 9 (.take 10 (.take 11 (.take 12 .done)))))))) (.take 6 (.must 3 (.must 7 (.take 8 (.take 9 (.take 10 (.take 11 (.take 12 .done))))))))))))) (by kernel_rfl) (fun w52 hXd => ?_)
  have hB := hB.trans hXd
  have ho3 := ho3.up hXd
  have hb6 := hb6.up hXd
  have ho9 := ho9.up hXd
  have hb12 := hb12.up hXd
  have ho15 := ho15.up hXd
  have ho18 := ho18.up hXd
  have ho22 := ho22.up hXd
  have ho23 := ho23.up hXd
  have hb24 := hb24.up hXd
  have ho25 := ho25.up hXd
  have ho27 := ho27.up hXd
  have hb34 := hb34.up hXd
  have ho35 := ho35.up hXd
  have ho36 := ho36.up hXd
  have ho41 := ho41.up hXd
  have ho45 := ho45.up hXd
  have ho46 := ho46.up hXd
  have hb48 := hb48.up hXd
  have ho49 := ho49.up hXd
  have hb50 := hb50.up hXd
  have hBr := hB
  have hS : Upd none w52 w52 := Ext.toUpd (Ext.refl _)
  refine HP.take rfl rfl rfl rfl hS (fun wS hS1 => PV.loadA T.ag33 rfl (Bx.cells (Bx.updD (by assumption) hS1 (Dj.nlR _))) (Ext.refl _) rfl) ?_
  refine HP.take rfl rfl rfl rfl hS (fun wS hS1 => PV.move rfl) ?_
  refine HP.take rfl rfl rfl rfl hS (fun wS hS1 => PV.move rfl) ?_
  refine HP.take rfl rfl rfl rfl hS (fun wS hS1 => PV.move rfl) ?_
  refine HP.fork rfl rfl rfl rfl ?_ ?_
  · skip
    refine (OpK.buildS VV (os := [.tmp 423, .tmp 424]) [_, _] rfl T.sl25 rfl rfl T.zv28 rfl (by intro z hz; first | rfl | (simp only [List.mem_cons, List.not_mem_nil, or_false] at hz; rcases hz with hz | hz <;> subst hz <;> exact (by first | exact Rd.cells1 (by assumption) | exact Osl.cells1 (by assumption) | exact Osn.cells1 (by assumption) | exact Rd.cells1 (NL.rd (by assumption)) | exact Inn.cell1 (by assumption) (by omega) | assumption | rfl))) rfl (fun v51 g51 w53 hXw53 ho51 hge51 => ?_))
    have hl51 := Lo.new hB hge51
    have hv51 := Lo.new hS hge51
    have hd3_51 := Dj.new ho3.ltO hge51
    have hd6_51 := Dj.new hb6.ltO hge51
    have hd9_51 := Dj.new ho9.ltO hge51
    have hd12_51 := Dj.new hb12.ltO hge51
    have hd15_51 := Dj.new ho15.ltO hge51
    have hd18_51 := Dj.new ho18.ltO hge51
    have hd22_51 := Dj.new ho22.ltO hge51
    have hd23_51 := Dj.new ho23.ltO hge51
    have hd24_51 := Dj.new hb24.ltO hge51
    have hd25_51 := Dj.new ho25.ltO hge51
    have hd27_51 := Dj.new ho27.ltO hge51
    have hd34_51 := Dj.new hb34.ltO hge51
    have hd35_51 := Dj.new ho35.ltO hge51
    have hd36_51 := Dj.new ho36.ltO hge51
    have hd41_51 := Dj.new ho41.ltO hge51
    have hd45_51 := Dj.new ho45.ltO hge51
    have hd46_51 := Dj.new ho46.ltO hge51
    have hd48_51 := Dj.new hb48.ltO hge51
    have hd49_51 := Dj.new ho49.ltO hge51
    have hd50_51 := Dj.new hb50.ltO hge51
    refine ⟨Upd.trans hS hXw53, ?_⟩
    have hS := Upd.trans hS hXw53
    have hB := hB.trans hXw53
    have ho3 := ho3.up hXw53
    have hb6 := hb6.up hXw53
    have ho9 := ho9.up hXw53
    have hb12 := hb12.up hXw53
    have ho15 := ho15.up hXw53
    have ho18 := ho18.up hXw53
    have ho22 := ho22.up hXw53
    have ho23 := ho23.up hXw53
    have hb24 := hb24.up hXw53
    have ho25 := ho25.up hXw53
    have ho27 := ho27.up hXw53
    have hb34 := hb34.up hXw53
    have ho35 := ho35.up hXw53
    have ho36 := ho36.up hXw53
    have ho41 := ho41.up hXw53
    have ho45 := ho45.up hXw53
    have ho46 := ho46.up hXw53
    have hb48 := hb48.up hXw53
    have ho49 := ho49.up hXw53
    have hb50 := hb50.up hXw53
    refine HP.must rfl rfl (OpK.callR rfl T.cf23 rfl (c_laws_r8At (by first | assumption | exact Rd.up (by assumption) hB | exact Osl.rd (by assumption) | exact Osn.rdR (by assumption)) (by first | assumption | omega | (simp only [marks_len]; omega)) (by first | assumption | omega | (simp only [marks_len]; omega))) (fun w54 hXw54 => ?_))
    refine ⟨Upd.trans hS hXw54, ?_⟩
    have hS := Upd.trans hS hXw54
    have hB := hB.trans hXw54
    have ho3 := ho3.up hXw54
    have hb6 := hb6.up hXw54
    have ho9 := ho9.up hXw54
    have hb12 := hb12.up hXw54
    have ho15 := ho15.up hXw54
    have ho18 := ho18.up hXw54
    have ho22 := ho22.up hXw54
    have ho23 := ho23.up hXw54
    have hb24 := hb24.up hXw54
    have ho25 := ho25.up hXw54
    have ho27 := ho27.up hXw54
    have hb34 := hb34.up hXw54
    have ho35 := ho35.up hXw54
    have ho36 := ho36.up hXw54
    have ho41 := ho41.up hXw54
    have ho45 := ho45.up hXw54
    have ho46 := ho46.up hXw54
    have hb48 := hb48.up hXw54
    have ho49 := ho49.up hXw54
    have hb50 := hb50.up hXw54
    have ho51 := ho51.up hXw54
    refine HP.take rfl rfl rfl rfl hS (fun wS hS1 => PV.add rfl rfl (by constructor <;> omega)) ?_
    refine HP.must rfl rfl (OpK.call rfl T.cf14 rfl (c_impl_ParsesShared_y (yss := [(leastC rs2 ws14 0 ws14.length 0), (leastC rs2 ws14 0 ws14.length 0)]) (Osn.rdR ho3) (rdSl2 (by assumption) (Osl.rd ho15) (Osl.rd ho15)) (sh_two hcg (by omega)) rfl) (fun rv15 w55 hR => ?_))
    obtain ⟨hXw55, v52, og52, rfl, ho52, hq52⟩ := hR
    have hl52 := Lo.up hq52 hB
    have hv52 := Lo.up hq52 hS
    have hd3_52 := Dj.lo ho3.ltO hq52
    have hd6_52 := Dj.lo hb6.ltO hq52
    have hd9_52 := Dj.lo ho9.ltO hq52
    have hd12_52 := Dj.lo hb12.ltO hq52
    have hd15_52 := Dj.lo ho15.ltO hq52
    have hd18_52 := Dj.lo ho18.ltO hq52
    have hd22_52 := Dj.lo ho22.ltO hq52
    have hd23_52 := Dj.lo ho23.ltO hq52
    have hd24_52 := Dj.lo hb24.ltO hq52
    have hd25_52 := Dj.lo ho25.ltO hq52
    have hd27_52 := Dj.lo ho27.ltO hq52
    have hd34_52 := Dj.lo hb34.ltO hq52
    have hd35_52 := Dj.lo ho35.ltO hq52
    have hd36_52 := Dj.lo ho36.ltO hq52
    have hd41_52 := Dj.lo ho41.ltO hq52
    have hd45_52 := Dj.lo ho45.ltO hq52
    have hd46_52 := Dj.lo ho46.ltO hq52
    have hd48_52 := Dj.lo hb48.ltO hq52
    have hd49_52 := Dj.lo ho49.ltO hq52
    have hd50_52 := Dj.lo hb50.ltO hq52
    have hd51_52 := Dj.lo ho51.ltO hq52
    refine ⟨Upd.trans hS hXw55, ?_⟩
    have hS := Upd.trans hS hXw55
    have hB := hB.trans hXw55
    have ho3 := ho3.up hXw55
    have hb6 := hb6.up hXw55
    have ho9 := ho9.up hXw55
    have hb12 := hb12.up hXw55
    have ho15 := ho15.up hXw55
    have ho18 := ho18.up hXw55
    have ho22 := ho22.up hXw55
    have ho23 := ho23.up hXw55
    have hb24 := hb24.up hXw55
    have ho25 := ho25.up hXw55
    have ho27 := ho27.up hXw55
    have hb34 := hb34.up hXw55
    have ho35 := ho35.up hXw55
    have ho36 := ho36.up hXw55
    have ho41 := ho41.up hXw55
    have ho45 := ho45.up hXw55
    have ho46 := ho46.up hXw55
    have hb48 := hb48.up hXw55
    have ho49 := ho49.up hXw55
    have hb50 := hb50.up hXw55
    have ho51 := ho51.up hXw55
    refine HP.take rfl rfl rfl rfl hS (fun wS hS1 => PV.move rfl) ?_
    refine HP.take rfl rfl rfl rfl hS (fun wS hS1 => PV.extract rfl rfl) ?_
    refine HP.take rfl rfl rfl rfl hS (fun wS hS1 => PV.extract rfl rfl) ?_
    refine HP.take rfl rfl rfl rfl hS (fun wS hS1 => PV.assign rfl) ?_
    refine HP.take rfl rfl rfl rfl hS (fun wS hS1 => PV.assign rfl) ?_
    refine HP.doneS ?_
    refine CW.seq ?_
    refine CW.reg ?_
    have hzr := made_dec (ws := ws14) hgm9 hm47 hwb hwl.1; have hxy := made_count hm47 (n := (1 + at8 ys (Int.toNat 45) 4).toNat) (by omega) (wordsL_1024 (by omega) (by omega))
    refine WL.mv rfl rfl ?_
    refine WL.mv rfl rfl ?_
    refine WL.pureG rfl rfl rfl rfl rfl (PV.move rfl) ?_
    refine WL.pure rfl rfl rfl (PV.pickT rfl rfl) ?_
    refine WL.mv rfl rfl ?_
    refine WL.pureG rfl rfl rfl rfl rfl (PV.move rfl) ?_
    refine WL.pure rfl rfl rfl (PV.pickT rfl rfl) ?_
    refine WL.mv rfl rfl ?_
    refine WL.pureG rfl rfl rfl rfl rfl (PV.move rfl) ?_
    refine WL.pure rfl rfl rfl (PV.pickT rfl rfl) ?_
    refine WL.mv rfl rfl ?_
    refine WL.pureG rfl rfl rfl rfl rfl (PV.move rfl) ?_
    refine WL.pure rfl rfl rfl (PV.pickT rfl rfl) ?_
    refine WL.mv rfl rfl ?_
    refine WL.pureG rfl rfl rfl rfl rfl (PV.move rfl) ?_
    refine WL.pureG rfl rfl rfl rfl rfl (PV.eql rfl rfl) ?_
    refine WL.pureG rfl rfl rfl rfl rfl (PV.move rfl) ?_
    refine WL.pureG rfl rfl rfl rfl rfl (PV.eqlB T.bl4 rfl rfl) ?_
    refine WL.pure rfl rfl rfl (PV.pickT rfl rfl) ?_
    refine WL.mv rfl rfl ?_
    refine WL.split (t := 451) rfl (fun hc31 => ?_) (fun hc31 => ?_)
    rotate_left
    · skip
      try simp only [nq] at hc31
      exfalso; revert hc31; rw [hzr]; simp
    try simp only [nq] at hc31
    refine WL.pureG rfl rfl rfl rfl rfl (PV.move rfl) ?_
    refine WL.pureG rfl rfl rfl rfl rfl (PV.move rfl) ?_
    refine WL.pureG rfl rfl rfl rfl rfl (PV.eql rfl rfl) ?_
    refine WL.pure rfl rfl rfl (PV.pickT rfl rfl) ?_
    refine WL.mv rfl rfl ?_
    refine WL.split (t := 456) rfl (fun hc32 => ?_) (fun hc32 => ?_)
    rotate_left
    · skip
      try simp only [nq] at hc32
      exfalso; revert hc32; rw [hxy]; simp
    try simp only [nq] at hc32
    refine WL.pureG rfl rfl rfl rfl rfl (PV.move rfl) ?_
    refine WL.pureG rfl rfl rfl rfl rfl ((PV.lenOs rfl ho52 T.sl28)) ?_
    refine WL.pureG rfl rfl rfl rfl rfl (PV.eql rfl rfl) ?_
    refine WL.pure rfl rfl rfl (PV.pickT rfl rfl) ?_
    refine WL.mv rfl rfl ?_
    refine WL.split (t := 461) rfl (fun hc33 => ?_) (fun hc33 => ?_)
    rotate_left
    · skip
      try simp only [nq] at hc33
      exfalso; first | omega | (revert hc33; simp; done) | (revert hc33; simp; omega)
    try simp only [nq] at hc33
    refine WL.pureG rfl rfl rfl rfl rfl (PV.move rfl) ?_
    first
      | refine WL.atO (x := .tmp 462) (y := .const (.int .i64 0)) (f := VI) (0) rfl rfl ho52 (by first | omega | (simp only [List.length_set]; omega) | (simp only [List.length_append, List.length_take, List.length_replicate, List.length_drop]; omega)) (fun p15 hpp15 hcp15 => ?_)
      | refine WL.atOZ (x := .tmp 462) (y := .const (.int .i64 0)) (f := VI) (0) rfl rfl ho52 (by first | omega | (simp only [List.length_set]; omega) | (simp only [List.length_append, List.length_take, List.length_replicate, List.length_drop]; omega)) (fun p15 hpp15 hzp15 hcp15 => ?_)
    refine WL.pureG rfl rfl rfl rfl rfl ((by first | exact PV.indexAddr hpp15 rfl rfl T.sl28 | exact PV.indexAddr hpp15 rfl (by rw [← hzp15]; rfl) T.sl28)) ?_
    refine WL.pureG rfl rfl rfl rfl rfl ((by first | exact PV.load0 T.na2 rfl (by first | exact Cells.up (by assumption) hB | exact Bx.cells (by assumption) | assumption) (Ext.refl _) rfl | exact PV.load1 T.na2 rfl (by first | exact Cells.up (by assumption) hB | exact Bx.cells (by assumption) | assumption) (Ext.refl _) rfl)) ?_
    refine WL.pureG rfl rfl rfl rfl rfl (PV.move rfl) ?_
    refine WL.pureG rfl rfl rfl rfl rfl (PV.eql rfl rfl) ?_
    refine WL.pure rfl rfl rfl (PV.pickT rfl rfl) ?_
    refine WL.mv rfl rfl ?_
    refine WL.split (t := 468) rfl (fun hc34 => ?_) (fun hc34 => ?_)
    rotate_left
    · skip
      try simp only [nq] at hc34
      exfalso; revert hc34; simp
    try simp only [nq] at hc34
    refine WL.pureG rfl rfl rfl rfl rfl (PV.move rfl) ?_
    first
      | refine WL.atO (x := .tmp 469) (y := .const (.int .i64 1)) (f := VI) (0) rfl rfl ho52 (by first | omega | (simp only [List.length_set]; omega) | (simp only [List.length_append, List.length_take, List.length_replicate, List.length_drop]; omega)) (fun p16 hpp16 hcp16 => ?_)
      | refine WL.atOZ (x := .tmp 469) (y := .const (.int .i64 1)) (f := VI) (0) rfl rfl ho52 (by first | omega | (simp only [List.length_set]; omega) | (simp only [List.length_append, List.length_take, List.length_replicate, List.length_drop]; omega)) (fun p16 hpp16 hzp16 hcp16 => ?_)
    refine WL.pureG rfl rfl rfl rfl rfl ((by first | exact PV.indexAddr hpp16 rfl rfl T.sl28 | exact PV.indexAddr hpp16 rfl (by rw [← hzp16]; rfl) T.sl28)) ?_
    refine WL.pureG rfl rfl rfl rfl rfl ((by first | exact PV.load0 T.na2 rfl (by first | exact Cells.up (by assumption) hB | exact Bx.cells (by assumption) | assumption) (Ext.refl _) rfl | exact PV.load1 T.na2 rfl (by first | exact Cells.up (by assumption) hB | exact Bx.cells (by assumption) | assumption) (Ext.refl _) rfl)) ?_
    refine WL.pureG rfl rfl rfl rfl rfl (PV.move rfl) ?_
    refine WL.pureG rfl rfl rfl rfl rfl (PV.eql rfl rfl) ?_
    refine WL.pure rfl rfl rfl (PV.pickT rfl rfl) ?_
    refine WL.asg rfl rfl ?_
    refine WL.nilS ?_
    refine CW.ret ?_
    refine RQ.r1 rfl ?_
    refine ⟨?_, hB⟩
    first | rfl | (exfalso; revert hc34; simp; done) | (exfalso; revert hc34; simp; omega) | (exfalso; omega) | first | rfl | exact bT (by omega) | exact bF (by omega) | exact bD (by omega) | exact iE (by omega) | (simp_all; done) | (simp_all; omega) | (simp_all; intros; omega)
  · skip
    refine (OpK.callR rfl T.cf23 rfl (c_laws_r8At (by first | assumption | exact Rd.up (by assumption) hB | exact Osl.rd (by assumption) | exact Osn.rdR (by assumption)) (by first | assumption | omega | (simp only [marks_len]; omega)) (by first | assumption | omega | (simp only [marks_len]; omega))) (fun w56 hXw56 => ?_))
    refine ⟨Upd.trans hS hXw56, ?_⟩
    have hS := Upd.trans hS hXw56
    have hB := hB.trans hXw56
    have ho3 := ho3.up hXw56
    have hb6 := hb6.up hXw56
    have ho9 := ho9.up hXw56
    have hb12 := hb12.up hXw56
    have ho15 := ho15.up hXw56
    have ho18 := ho18.up hXw56
    have ho22 := ho22.up hXw56
    have ho23 := ho23.up hXw56
    have hb24 := hb24.up hXw56
    have ho25 := ho25.up hXw56
    have ho27 := ho27.up hXw56
    have hb34 := hb34.up hXw56
    have ho35 := ho35.up hXw56
    have ho36 := ho36.up hXw56
    have ho41 := ho41.up hXw56
    have ho45 := ho45.up hXw56
    have ho46 := ho46.up hXw56
    have hb48 := hb48.up hXw56
    have ho49 := ho49.up hXw56
    have hb50 := hb50.up hXw56
    refine HP.take rfl rfl rfl rfl hS (fun wS hS1 => PV.add rfl rfl (by constructor <;> omega)) ?_
    refine HP.must rfl rfl (OpK.buildS VV (os := [.tmp 423, .tmp 424]) [_, _] rfl T.sl25 rfl rfl T.zv28 rfl (by intro z hz; first | rfl | (simp only [List.mem_cons, List.not_mem_nil, or_false] at hz; rcases hz with hz | hz <;> subst hz <;> exact (by first | exact Rd.cells1 (by assumption) | exact Osl.cells1 (by assumption) | exact Osn.cells1 (by assumption) | exact Rd.cells1 (NL.rd (by assumption)) | exact Inn.cell1 (by assumption) (by omega) | assumption | rfl))) rfl (fun v53 g53 w57 hXw57 ho53 hge53 => ?_))
    have hl53 := Lo.new hB hge53
    have hv53 := Lo.new hS hge53
    have hd3_53 := Dj.new ho3.ltO hge53
    have hd6_53 := Dj.new hb6.ltO hge53
    have hd9_53 := Dj.new ho9.ltO hge53
    have hd12_53 := Dj.new hb12.ltO hge53
    have hd15_53 := Dj.new ho15.ltO hge53
    have hd18_53 := Dj.new ho18.ltO hge53
    have hd22_53 := Dj.new ho22.ltO hge53
    have hd23_53 := Dj.new ho23.ltO hge53
    have hd24_53 := Dj.new hb24.ltO hge53
    have hd25_53 := Dj.new ho25.ltO hge53
    have hd27_53 := Dj.new ho27.ltO hge53
    have hd34_53 := Dj.new hb34.ltO hge53
    have hd35_53 := Dj.new ho35.ltO hge53
    have hd36_53 := Dj.new ho36.ltO hge53
    have hd41_53 := Dj.new ho41.ltO hge53
    have hd45_53 := Dj.new ho45.ltO hge53
    have hd46_53 := Dj.new ho46.ltO hge53
    have hd48_53 := Dj.new hb48.ltO hge53
    have hd49_53 := Dj.new ho49.ltO hge53
    have hd50_53 := Dj.new hb50.ltO hge53
    refine ⟨Upd.trans hS hXw57, ?_⟩
    have hS := Upd.trans hS hXw57
    have hB := hB.trans hXw57
    have ho3 := ho3.up hXw57
    have hb6 := hb6.up hXw57
    have ho9 := ho9.up hXw57
    have hb12 := hb12.up hXw57
    have ho15 := ho15.up hXw57
    have ho18 := ho18.up hXw57
    have ho22 := ho22.up hXw57
    have ho23 := ho23.up hXw57
    have hb24 := hb24.up hXw57
    have ho25 := ho25.up hXw57
    have ho27 := ho27.up hXw57
    have hb34 := hb34.up hXw57
    have ho35 := ho35.up hXw57
    have ho36 := ho36.up hXw57
    have ho41 := ho41.up hXw57
    have ho45 := ho45.up hXw57
    have ho46 := ho46.up hXw57
    have hb48 := hb48.up hXw57
    have ho49 := ho49.up hXw57
    have hb50 := hb50.up hXw57
    refine HP.must rfl rfl (OpK.call rfl T.cf14 rfl (c_impl_ParsesShared_y (yss := [(leastC rs2 ws14 0 ws14.length 0), (leastC rs2 ws14 0 ws14.length 0)]) (Osn.rdR ho3) (rdSl2 (by assumption) (Osl.rd ho15) (Osl.rd ho15)) (sh_two hcg (by omega)) rfl) (fun rv16 w58 hR => ?_))
    obtain ⟨hXw58, v54, og54, rfl, ho54, hq54⟩ := hR
    have hl54 := Lo.up hq54 hB
    have hv54 := Lo.up hq54 hS
    have hd3_54 := Dj.lo ho3.ltO hq54
    have hd6_54 := Dj.lo hb6.ltO hq54
    have hd9_54 := Dj.lo ho9.ltO hq54
    have hd12_54 := Dj.lo hb12.ltO hq54
    have hd15_54 := Dj.lo ho15.ltO hq54
    have hd18_54 := Dj.lo ho18.ltO hq54
    have hd22_54 := Dj.lo ho22.ltO hq54
    have hd23_54 := Dj.lo ho23.ltO hq54
    have hd24_54 := Dj.lo hb24.ltO hq54
    have hd25_54 := Dj.lo ho25.ltO hq54
    have hd27_54 := Dj.lo ho27.ltO hq54
    have hd34_54 := Dj.lo hb34.ltO hq54
    have hd35_54 := Dj.lo ho35.ltO hq54
    have hd36_54 := Dj.lo ho36.ltO hq54
    have hd41_54 := Dj.lo ho41.ltO hq54
    have hd45_54 := Dj.lo ho45.ltO hq54
    have hd46_54 := Dj.lo ho46.ltO hq54
    have hd48_54 := Dj.lo hb48.ltO hq54
    have hd49_54 := Dj.lo ho49.ltO hq54
    have hd50_54 := Dj.lo hb50.ltO hq54
    have hd53_54 := Dj.lo ho53.ltO hq54
    refine ⟨Upd.trans hS hXw58, ?_⟩
    have hS := Upd.trans hS hXw58
    have hB := hB.trans hXw58
    have ho3 := ho3.up hXw58
    have hb6 := hb6.up hXw58
    have ho9 := ho9.up hXw58
    have hb12 := hb12.up hXw58
    have ho15 := ho15.up hXw58
    have ho18 := ho18.up hXw58
    have ho22 := ho22.up hXw58
    have ho23 := ho23.up hXw58
    have hb24 := hb24.up hXw58
    have ho25 := ho25.up hXw58
    have ho27 := ho27.up hXw58
    have hb34 := hb34.up hXw58
    have ho35 := ho35.up hXw58
    have ho36 := ho36.up hXw58
    have ho41 := ho41.up hXw58
    have ho45 := ho45.up hXw58
    have ho46 := ho46.up hXw58
    have hb48 := hb48.up hXw58
    have ho49 := ho49.up hXw58
    have hb50 := hb50.up hXw58
    have ho53 := ho53.up hXw58
    refine HP.take rfl rfl rfl rfl hS (fun wS hS1 => PV.move rfl) ?_
    refine HP.take rfl rfl rfl rfl hS (fun wS hS1 => PV.extract rfl rfl) ?_
    refine HP.take rfl rfl rfl rfl hS (fun wS hS1 => PV.extract rfl rfl) ?_
    refine HP.take rfl rfl rfl rfl hS (fun wS hS1 => PV.assign rfl) ?_
    refine HP.take rfl rfl rfl rfl hS (fun wS hS1 => PV.assign rfl) ?_
    refine HP.doneS ?_
    refine CW.seq ?_
    refine CW.reg ?_
    have hzr := made_dec (ws := ws14) hgm9 hm47 hwb hwl.1; have hxy := made_count hm47 (n := (1 + at8 ys (Int.toNat 45) 4).toNat) (by omega) (wordsL_1024 (by omega) (by omega))
    refine WL.mv rfl rfl ?_
    refine WL.mv rfl rfl ?_
    refine WL.pureG rfl rfl rfl rfl rfl (PV.move rfl) ?_
    refine WL.pure rfl rfl rfl (PV.pickT rfl rfl) ?_
    refine WL.mv rfl rfl ?_
    refine WL.pureG rfl rfl rfl rfl rfl (PV.move rfl) ?_
    refine WL.pure rfl rfl rfl (PV.pickT rfl rfl) ?_
    refine WL.mv rfl rfl ?_
    refine WL.pureG rfl rfl rfl rfl rfl (PV.move rfl) ?_
    refine WL.pure rfl rfl rfl (PV.pickT rfl rfl) ?_
    refine WL.mv rfl rfl ?_
    refine WL.pureG rfl rfl rfl rfl rfl (PV.move rfl) ?_
    refine WL.pure rfl rfl rfl (PV.pickT rfl rfl) ?_
    refine WL.mv rfl rfl ?_
    refine WL.pureG rfl rfl rfl rfl rfl (PV.move rfl) ?_
    refine WL.pureG rfl rfl rfl rfl rfl (PV.eql rfl rfl) ?_
    refine WL.pureG rfl rfl rfl rfl rfl (PV.move rfl) ?_
    refine WL.pureG rfl rfl rfl rfl rfl (PV.eqlB T.bl4 rfl rfl) ?_
    refine WL.pure rfl rfl rfl (PV.pickT rfl rfl) ?_
    refine WL.mv rfl rfl ?_
    refine WL.split (t := 451) rfl (fun hc35 => ?_) (fun hc35 => ?_)
    rotate_left
    · skip
      try simp only [nq] at hc35
      exfalso; revert hc35; rw [hzr]; simp
    try simp only [nq] at hc35
    refine WL.pureG rfl rfl rfl rfl rfl (PV.move rfl) ?_
    refine WL.pureG rfl rfl rfl rfl rfl (PV.move rfl) ?_
    refine WL.pureG rfl rfl rfl rfl rfl (PV.eql rfl rfl) ?_
    refine WL.pure rfl rfl rfl (PV.pickT rfl rfl) ?_
    refine WL.mv rfl rfl ?_
    refine WL.split (t := 456) rfl (fun hc36 => ?_) (fun hc36 => ?_)
    rotate_left
    · skip
      try simp only [nq] at hc36
      exfalso; revert hc36; rw [hxy]; simp
    try simp only [nq] at hc36
    refine WL.pureG rfl rfl rfl rfl rfl (PV.move rfl) ?_
    refine WL.pureG rfl rfl rfl rfl rfl ((PV.lenOs rfl ho54 T.sl28)) ?_
    refine WL.pureG rfl rfl rfl rfl rfl (PV.eql rfl rfl) ?_
    refine WL.pure rfl rfl rfl (PV.pickT rfl rfl) ?_
    refine WL.mv rfl rfl ?_
    refine WL.split (t := 461) rfl (fun hc37 => ?_) (fun hc37 => ?_)
    rotate_left
    · skip
      try simp only [nq] at hc37
      exfalso; first | omega | (revert hc37; simp; done) | (revert hc37; simp; omega)
    try simp only [nq] at hc37
    refine WL.pureG rfl rfl rfl rfl rfl (PV.move rfl) ?_
    first
      | refine WL.atO (x := .tmp 462) (y := .const (.int .i64 0)) (f := VI) (0) rfl rfl ho54 (by first | omega | (simp only [List.length_set]; omega) | (simp only [List.length_append, List.length_take, List.length_replicate, List.length_drop]; omega)) (fun p17 hpp17 hcp17 => ?_)
      | refine WL.atOZ (x := .tmp 462) (y := .const (.int .i64 0)) (f := VI) (0) rfl rfl ho54 (by first | omega | (simp only [List.length_set]; omega) | (simp only [List.length_append, List.length_take, List.length_replicate, List.length_drop]; omega)) (fun p17 hpp17 hzp17 hcp17 => ?_)
    refine WL.pureG rfl rfl rfl rfl rfl ((by first | exact PV.indexAddr hpp17 rfl rfl T.sl28 | exact PV.indexAddr hpp17 rfl (by rw [← hzp17]; rfl) T.sl28)) ?_
    refine WL.pureG rfl rfl rfl rfl rfl ((by first | exact PV.load0 T.na2 rfl (by first | exact Cells.up (by assumption) hB | exact Bx.cells (by assumption) | assumption) (Ext.refl _) rfl | exact PV.load1 T.na2 rfl (by first | exact Cells.up (by assumption) hB | exact Bx.cells (by assumption) | assumption) (Ext.refl _) rfl)) ?_
    refine WL.pureG rfl rfl rfl rfl rfl (PV.move rfl) ?_
    refine WL.pureG rfl rfl rfl rfl rfl (PV.eql rfl rfl) ?_
    refine WL.pure rfl rfl rfl (PV.pickT rfl rfl) ?_
    refine WL.mv rfl rfl ?_
    refine WL.split (t := 468) rfl (fun hc38 => ?_) (fun hc38 => ?_)
    rotate_left
    · skip
      try simp only [nq] at hc38
      exfalso; revert hc38; simp
    try simp only [nq] at hc38
    refine WL.pureG rfl rfl rfl rfl rfl (PV.move rfl) ?_
    first
      | refine WL.atO (x := .tmp 469) (y := .const (.int .i64 1)) (f := VI) (0) rfl rfl ho54 (by first | omega | (simp only [List.length_set]; omega) | (simp only [List.length_append, List.length_take, List.length_replicate, List.length_drop]; omega)) (fun p18 hpp18 hcp18 => ?_)
      | refine WL.atOZ (x := .tmp 469) (y := .const (.int .i64 1)) (f := VI) (0) rfl rfl ho54 (by first | omega | (simp only [List.length_set]; omega) | (simp only [List.length_append, List.length_take, List.length_replicate, List.length_drop]; omega)) (fun p18 hpp18 hzp18 hcp18 => ?_)
    refine WL.pureG rfl rfl rfl rfl rfl ((by first | exact PV.indexAddr hpp18 rfl rfl T.sl28 | exact PV.indexAddr hpp18 rfl (by rw [← hzp18]; rfl) T.sl28)) ?_
    refine WL.pureG rfl rfl rfl rfl rfl ((by first | exact PV.load0 T.na2 rfl (by first | exact Cells.up (by assumption) hB | exact Bx.cells (by assumption) | assumption) (Ext.refl _) rfl | exact PV.load1 T.na2 rfl (by first | exact Cells.up (by assumption) hB | exact Bx.cells (by assumption) | assumption) (Ext.refl _) rfl)) ?_
    refine WL.pureG rfl rfl rfl rfl rfl (PV.move rfl) ?_
    refine WL.pureG rfl rfl rfl rfl rfl (PV.eql rfl rfl) ?_
    refine WL.pure rfl rfl rfl (PV.pickT rfl rfl) ?_
    refine WL.asg rfl rfl ?_
    refine WL.nilS ?_
    refine CW.ret ?_
    refine RQ.r1 rfl ?_
    refine ⟨?_, hB⟩
    first | rfl | (exfalso; revert hc38; simp; done) | (exfalso; revert hc38; simp; omega) | (exfalso; omega) | first | rfl | exact bT (by omega) | exact bF (by omega) | exact bD (by omega) | exact iE (by omega) | (simp_all; done) | (simp_all; omega) | (simp_all; intros; omega)

end Go.Proofs.Ythemmoceomdccaa
