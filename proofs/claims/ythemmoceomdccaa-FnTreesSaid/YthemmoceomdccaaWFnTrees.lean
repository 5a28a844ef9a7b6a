/- Walks of the functions that the law FnTrees reaches: each says what its function computes. No condition. -/
import Derived.Test.YthemmoceomdccaaProg
import Derived.Test.YthemmoceomdccaaLibM
import Derived.Test.YthemmoceomdccaaPlA
import Derived.Test.YthemmoceomdccaaPlM
import Derived.Test.YthemmoceomdccaaLibN
import Derived.Test.YthemmoceomdccaaLibO
import Derived.Test.YthemmoceomdccaaLibG2
import Derived.Test.YthemmoceomdccaaPlG
import Derived.Test.YthemmoceomdccaaLibRf
import Derived.Test.YthemmoceomdccaaPlTr
import Derived.Test.YthemmoceomdccaaPlTs
import Derived.Test.YthemmoceomdccaaLibRs
import Derived.Test.YthemmoceomdccaaLibR
import Derived.Test.YthemmoceomdccaaPlX
import Derived.Test.YthemmoceomdccaaPlCt
import Derived.Test.YthemmoceomdccaaPlFt
import Derived.Test.YthemmoceomdccaaLibKp
import Derived.Test.YthemmoceomdccaaLibKa
import Derived.Test.YthemmoceomdccaaPlCl
import Derived.Test.YthemmoceomdccaaPlR
import Derived.Test.YthemmoceomdccaaPlDq
import Derived.Test.YthemmoceomdccaaPlFu
import Derived.Test.YthemmoceomdccaaPlFv
import Derived.Test.YthemmoceomdccaaPlId
import Derived.Test.YthemmoceomdccaaPlCn
import Derived.Test.YthemmoceomdccaaPlFy
import Derived.Test.YthemmoceomdccaaPlR8
import Derived.Test.YthemmoceomdccaaWFnTreesd
namespace Go.Proofs.Ythemmoceomdccaa
open Go Go.WX Go.Proofs
set_option linter.unusedSimpArgs false
set_option linter.unusedVariables false

theorem c_impl_LeavesOfTree_y {w : World} {vt : Value} {xs : List Int} {T : Tre} (ht : Rd EI w vt xs) (hN : xs.length ≤ 1048576) (hx : xs = flatT T) (hT : okTr 4 T) (h23 : (flatT T).length ≤ 23) : Calls Try.prog 45 #[vt] w (Ret1 (fun v w' => Ext w w' ∧ ∃ v1 og_v1, v = .tuple #[v1, .bool true] ∧ Osl VI w' og_v1 v1 (lvT T) ∧ Lo w og_v1)) := by
  subst hx
  have h := c_impl_LeavesOfTree ht hN
  rw [leavesT_y hT h23, of_tree hT h23] at h; exact h
theorem c_impl_DeepOfTree_y {w : World} {vt : Value} {xs : List Int} {T : Tre} (ht : Rd EI w vt xs) (hN : xs.length ≤ 1048576) (hx : xs = flatT T) (hT : okTr 4 T) (h23 : (flatT T).length ≤ 23) : Calls Try.prog 46 #[vt] w (Ret1 (RQt (.tuple #[.int .i64 (deepT T), .bool true]) w)) := by
  subst hx
  have h := c_impl_DeepOfTree ht hN
  rw [dpL_yes hT h23, of_tree hT h23] at h; exact h
theorem c_impl_MirrorTree_y {w : World} {vt : Value} {xs : List Int} {T : Tre} (ht : Rd EI w vt xs) (hN : xs.length ≤ 1048576) (hx : xs = flatT T) (hT : okTr 4 T) (h23 : (flatT T).length ≤ 23) : Calls Try.prog 47 #[vt] w (Ret1 (fun v w' => Ext w w' ∧ ∃ u og_u, v = .tuple #[u, .bool true] ∧ Osl VI w' og_u u (flatT (mirT T)) ∧ Lo w og_u)) := by
  subst hx
  have h := c_impl_MirrorTree ht hN
  rw [mrL_yes hT h23, of_tree hT h23] at h; exact h
theorem c_impl_IsTree_y {w : World} {vt : Value} {xs : List Int} {L : Int} {T : Tre} (ht : Rd EI w vt xs) (hN : xs.length ≤ 1048576) (hx : xs = flatT T) (hT : okTr L T) (h23 : (flatT T).length ≤ 23) (hL14 : 1 ≤ L ∧ L ≤ 4) : Calls Try.prog 48 #[vt, .int .i64 L] w (Ret1 (RQt (.bool true) w)) := by
  subst hx
  have h := c_impl_IsTree (L := L) ht hN
  rw [isTreeBL hL14, of_tree hT h23] at h; exact h
theorem c_laws_r8Same_y {w : World} {va vb : Value} {xs ys : List Int} (ha : Rd EI w va xs) (hb : Rd EI w vb ys) (hV : xs = ys) : Calls Try.prog 49 #[va, vb] w (Ret1 (RQt (.bool true) w)) := by
  have h := c_laws_r8Same ha hb
  rw [decide_eq_true hV] at h; exact h
theorem c_impl_StateOfTree_y {w : World} {a0 : Int} {a1 : Int} {va2 : Value} {xa2 : List Int} {va3 : Value} {xa3 : List Int} {va4 : Value} {xa4 : List Bool} {vt : Value} {xs : List Int} {T : Tre} (ha2 : Rd EI w va2 xa2) (ha3 : Rd EI w va3 xa3) (ha4 : Rd EB w va4 xa4) (ht : Rd EI w vt xs) (hN : xs.length ≤ 1048576) (hv : (1 ≤ a0 ∧ a0 ≤ 16) ∧ (1 ≤ a1 ∧ a1 ≤ 4) ∧ (xa2.length : Int) = a1 ∧ (xa3.length : Int) = a0 * a0 ∧ (xa4.length : Int) = a0 ∧ allIn xa2 0 (a0 - 1) = true ∧ allIn xa3 0 (a0 - 1) = true) (hx : xs = flatT T) (hT : okTr a1 T) (h23 : (flatT T).length ≤ 23) : Calls Try.prog 50 #[.agg #[.int .i64 a0, .int .i64 a1, va2, va3, va4], vt] w (Ret1 (RQt (.tuple #[.int .i64 (stT a0 xa2 xa3 T), .bool true]) w)) := by
  subst hx
  have hvb := treesB_yes hv
  have h := c_impl_StateOfTree ha2 ha3 ha4 ht hN (a0 := a0) (a1 := a1)
  rw [stL_yes hvb hT h23, hvb, of_tree hT h23] at h; exact h
theorem c_impl_ReadsTree_y {w : World} {a0 : Int} {a1 : Int} {va2 : Value} {xa2 : List Int} {va3 : Value} {xa3 : List Int} {va4 : Value} {xa4 : List Bool} {vt : Value} {xs : List Int} {T : Tre} (ha2 : Rd EI w va2 xa2) (ha3 : Rd EI w va3 xa3) (ha4 : Rd EB w va4 xa4) (ht : Rd EI w vt xs) (hN : xs.length ≤ 1048576) (hv : (1 ≤ a0 ∧ a0 ≤ 16) ∧ (1 ≤ a1 ∧ a1 ≤ 4) ∧ (xa2.length : Int) = a1 ∧ (xa3.length : Int) = a0 * a0 ∧ (xa4.length : Int) = a0 ∧ allIn xa2 0 (a0 - 1) = true ∧ allIn xa3 0 (a0 - 1) = true) (hx : xs = flatT T) (hT : okTr a1 T) (h23 : (flatT T).length ≤ 23) : Calls Try.prog 51 #[.agg #[.int .i64 a0, .int .i64 a1, va2, va3, va4], vt] w (Ret1 (RQt (.tuple #[.bool (xa4.getD (stT a0 xa2 xa3 T).toNat false), .bool true]) w)) := by
  subst hx
  have hvb := treesB_yes hv
  have h := c_impl_ReadsTree ha2 ha3 ha4 ht hN (a0 := a0) (a1 := a1)
  rw [rdT_yes (by rw [hvb, of_tree hT h23]; rfl), stL_yes hvb hT h23, hvb, of_tree hT h23] at h; exact h
theorem c_impl_LeastTrees_y {w : World} {a0 : Int} {a1 : Int} {va2 : Value} {xa2 : List Int} {va3 : Value} {xa3 : List Int} {va4 : Value} {xa4 : List Bool}  (ha2 : Rd EI w va2 xa2) (ha3 : Rd EI w va3 xa3) (ha4 : Rd EB w va4 xa4) (hv : (1 ≤ a0 ∧ a0 ≤ 16) ∧ (1 ≤ a1 ∧ a1 ≤ 4) ∧ (xa2.length : Int) = a1 ∧ (xa3.length : Int) = a0 * a0 ∧ (xa4.length : Int) = a0 ∧ allIn xa2 0 (a0 - 1) = true ∧ allIn xa3 0 (a0 - 1) = true) : Calls Try.prog 52 #[.agg #[.int .i64 a0, .int .i64 a1, va2, va3, va4]] w (Ret1 (fun v w' => Ext w w' ∧ ∃ (m : Int) (s2 s3 : List Int) (s4 : List Bool) (u2 : Value) (og_u2 : Option Nat) (u3 : Value) (og_u3 : Option Nat) (u4 : Value) (og_u4 : Option Nat), v = .tuple #[.agg #[.int .i64 m, .int .i64 a1, u2, u3, u4], .bool true] ∧ ((1 ≤ m ∧ m ≤ 16) ∧ (1 ≤ a1 ∧ a1 ≤ 4) ∧ (s2.length : Int) = a1 ∧ (s3.length : Int) = m * m ∧ (s4.length : Int) = m ∧ allIn s2 0 (m - 1) = true ∧ allIn s3 0 (m - 1) = true) ∧ (SmOf a0 xa2 xa3 xa4 m s2 s3 s4) ∧ (m ≤ a0) ∧ Osl VI w' og_u2 u2 (s2) ∧ Lo w og_u2 ∧ Osl VI w' og_u3 u3 (s3) ∧ Lo w og_u3 ∧ Osl VB w' og_u4 u4 (s4) ∧ Lo w og_u4 ∧ Dj og_u2 og_u3 ∧ Dj og_u2 og_u4 ∧ Dj og_u3 og_u4)) := by
  have hvb := treesB_yes hv
  have tv : TV a0 a1 xa2 xa3 := ⟨hv.1, hv.2.1, hv.2.2.1, hv.2.2.2.1, hv.2.2.2.2.2.1, hv.2.2.2.2.2.2⟩
  have h := c_impl_LeastTrees ha2 ha3 ha4 (a0 := a0) (a1 := a1)
  simp only [onT_yes hvb, onI_yes hvb] at h
  rw [hvb] at h
  refine Calls.ret h (fun v w9 h9 => ?_)
  obtain ⟨hX, u2, o2, u3, o3, u4, o4, hv9, p1, p2, p3, p4, p5, p6, d1, d2, d3⟩ := h9
  have hsm := SmOf.mk (a0 := a0) (lf := xa2) (nx := xa3) (en := xa4) rfl rfl rfl rfl
  obtain ⟨t, h4, hle⟩ := sm_tv tv hv.2.2.2.2.1 hsm
  exact ⟨hX, _, _, _, _, u2, o2, u3, o3, u4, o4, hv9, ⟨t.s, t.l, t.ll, t.nl, h4, t.li, t.ni⟩, hsm, hle, p1, p2, p3, p4, p5, p6, d1, d2, d3⟩
theorem c_impl_OtherTrees_y {w : World} {a0 : Int} {a1 : Int} {va2 : Value} {xa2 : List Int} {va3 : Value} {xa3 : List Int} {va4 : Value} {xa4 : List Bool}  (ha2 : Rd EI w va2 xa2) (ha3 : Rd EI w va3 xa3) (ha4 : Rd EB w va4 xa4) (hv : (1 ≤ a0 ∧ a0 ≤ 16) ∧ (1 ≤ a1 ∧ a1 ≤ 4) ∧ (xa2.length : Int) = a1 ∧ (xa3.length : Int) = a0 * a0 ∧ (xa4.length : Int) = a0 ∧ allIn xa2 0 (a0 - 1) = true ∧ allIn xa3 0 (a0 - 1) = true) : Calls Try.prog 53 #[.agg #[.int .i64 a0, .int .i64 a1, va2, va3, va4]] w (Ret1 (fun v w' => Ext w w' ∧ ∃ u2 og_u2 u3 og_u3 u4 og_u4, v = .tuple #[.agg #[.int .i64 a0, .int .i64 a1, u2, u3, u4], .bool true] ∧ Osl VI w' og_u2 u2 (xa2) ∧ Lo w og_u2 ∧ Osl VI w' og_u3 u3 (xa3) ∧ Lo w og_u3 ∧ Osl VB w' og_u4 u4 (xa4.map not) ∧ Lo w og_u4 ∧ Dj og_u2 og_u3 ∧ Dj og_u2 og_u4 ∧ Dj og_u3 og_u4)) := by
  have hvb := treesB_yes hv
  have h := c_impl_OtherTrees ha2 ha3 ha4 (a0 := a0) (a1 := a1)
  simp only [onT_yes hvb, onI_yes hvb] at h
  rw [hvb] at h; exact h
theorem c_impl_MeetTrees_y {w : World} {a0 : Int} {a1 : Int} {va2 : Value} {xa2 : List Int} {va3 : Value} {xa3 : List Int} {va4 : Value} {xa4 : List Bool} {y0 : Int} {y1 : Int} {vy2 : Value} {xy2 : List Int} {vy3 : Value} {xy3 : List Int} {vy4 : Value} {xy4 : List Bool}  (ha2 : Rd EI w va2 xa2) (ha3 : Rd EI w va3 xa3) (ha4 : Rd EB w va4 xa4) (hy2 : Rd EI w vy2 xy2) (hy3 : Rd EI w vy3 xy3) (hy4 : Rd EB w vy4 xy4) (hv : (1 ≤ a0 ∧ a0 ≤ 16) ∧ (1 ≤ a1 ∧ a1 ≤ 4) ∧ (xa2.length : Int) = a1 ∧ (xa3.length : Int) = a0 * a0 ∧ (xa4.length : Int) = a0 ∧ allIn xa2 0 (a0 - 1) = true ∧ allIn xa3 0 (a0 - 1) = true) (hv2 : (1 ≤ y0 ∧ y0 ≤ 16) ∧ (1 ≤ y1 ∧ y1 ≤ 4) ∧ (xy2.length : Int) = y1 ∧ (xy3.length : Int) = y0 * y0 ∧ (xy4.length : Int) = y0 ∧ allIn xy2 0 (y0 - 1) = true ∧ allIn xy3 0 (y0 - 1) = true) (h11 : a1 = y1) (h16 : a0 * y0 ≤ 16) : Calls Try.prog 54 #[.agg #[.int .i64 a0, .int .i64 a1, va2, va3, va4], .agg #[.int .i64 y0, .int .i64 y1, vy2, vy3, vy4]] w (Ret1 (fun v w' => Ext w w' ∧ ∃ (m : Int) (s2 s3 : List Int) (s4 : List Bool) (u2 : Value) (og_u2 : Option Nat) (u3 : Value) (og_u3 : Option Nat) (u4 : Value) (og_u4 : Option Nat), v = .tuple #[.agg #[.int .i64 m, .int .i64 a1, u2, u3, u4], .bool true] ∧ ((1 ≤ m ∧ m ≤ 16) ∧ (1 ≤ a1 ∧ a1 ≤ 4) ∧ (s2.length : Int) = a1 ∧ (s3.length : Int) = m * m ∧ (s4.length : Int) = m ∧ allIn s2 0 (m - 1) = true ∧ allIn s3 0 (m - 1) = true) ∧ (∀ T, okTr a1 T → s4.getD (stT m s2 s3 T).toNat false = (xa4.getD (stT a0 xa2 xa3 T).toNat false && xy4.getD (stT y0 xy2 xy3 T).toNat false)) ∧ Osl VI w' og_u2 u2 (s2) ∧ Lo w og_u2 ∧ Osl VI w' og_u3 u3 (s3) ∧ Lo w og_u3 ∧ Osl VB w' og_u4 u4 (s4) ∧ Lo w og_u4 ∧ Dj og_u2 og_u3 ∧ Dj og_u2 og_u4 ∧ Dj og_u3 og_u4)) := by
  have hvb : (meetB a0 a1 y0 y1 xa2 xa3 xy2 xy3 xa4 xy4) = true := meetB_yes (treesB_yes hv) (treesB_yes hv2) h11 h16
  subst h11
  have tv : TV a0 a1 xa2 xa3 := ⟨hv.1, hv.2.1, hv.2.2.1, hv.2.2.2.1, hv.2.2.2.2.2.1, hv.2.2.2.2.2.2⟩
  have tv2 : TV y0 a1 xy2 xy3 := ⟨hv2.1, hv2.2.1, hv2.2.2.1, hv2.2.2.2.1, hv2.2.2.2.2.2.1, hv2.2.2.2.2.2.2⟩
  have h := c_impl_MeetTrees ha2 ha3 ha4 hy2 hy3 hy4 (a0 := a0) (a1 := a1) (y0 := y0) (y1 := a1)
  simp only [onT_yes hvb, onI_yes hvb] at h
  rw [hvb] at h
  refine Calls.ret h (fun v w9 h9 => ?_)
  obtain ⟨hX, u2, o2, u3, o3, u4, o4, hv9, p1, p2, p3, p4, p5, p6, d1, d2, d3⟩ := h9
  have t := meet_tv tv tv2 h16
  exact ⟨hX, _, _, _, _, u2, o2, u3, o3, u4, o4, hv9, ⟨t.s, t.l, t.ll, t.nl, by rw [mapR_len]; have := t.s; omega, t.li, t.ni⟩, (fun T hT => by rw [meet_st tv tv2 h16 T hT]; exact meet_en hv.2.2.2.2.1 hv2.2.2.2.2.1 (st_rng tv.s tv.ll tv.nl tv.li tv.ni T hT) (st_rng tv2.s tv2.ll tv2.nl tv2.li tv2.ni T hT)), p1, p2, p3, p4, p5, p6, d1, d2, d3⟩
theorem c_impl_SameTrees_y {w : World} {a0 : Int} {a1 : Int} {va2 : Value} {xa2 : List Int} {va3 : Value} {xa3 : List Int} {va4 : Value} {xa4 : List Bool} {b0 : Int} {b1 : Int} {vb2 : Value} {xb2 : List Int} {vb3 : Value} {xb3 : List Int} {vb4 : Value} {xb4 : List Bool}  (ha2 : Rd EI w va2 xa2) (ha3 : Rd EI w va3 xa3) (ha4 : Rd EB w va4 xa4) (hb2 : Rd EI w vb2 xb2) (hb3 : Rd EI w vb3 xb3) (hb4 : Rd EB w vb4 xb4) (hV : a0 = b0 ∧ a1 = b1 ∧ xa2 = xb2 ∧ xa3 = xb3 ∧ xa4 = xb4) : Calls Try.prog 55 #[.agg #[.int .i64 a0, .int .i64 a1, va2, va3, va4], .agg #[.int .i64 b0, .int .i64 b1, vb2, vb3, vb4]] w (Ret1 (RQt (.bool true) w)) := by
  have h := c_impl_SameTrees ha2 ha3 ha4 hb2 hb3 hb4 (a0 := a0) (a1 := a1) (b0 := b0) (b1 := b1)
  rw [decide_eq_true hV] at h; exact h
theorem c_impl_ValidTrees_y {w : World} {a0 : Int} {a1 : Int} {va2 : Value} {xa2 : List Int} {va3 : Value} {xa3 : List Int} {va4 : Value} {xa4 : List Bool}  (ha2 : Rd EI w va2 xa2) (ha3 : Rd EI w va3 xa3) (ha4 : Rd EB w va4 xa4) (hv : (1 ≤ a0 ∧ a0 ≤ 16) ∧ (1 ≤ a1 ∧ a1 ≤ 4) ∧ (xa2.length : Int) = a1 ∧ (xa3.length : Int) = a0 * a0 ∧ (xa4.length : Int) = a0 ∧ allIn xa2 0 (a0 - 1) = true ∧ allIn xa3 0 (a0 - 1) = true) : Calls Try.prog 56 #[.agg #[.int .i64 a0, .int .i64 a1, va2, va3, va4]] w (Ret1 (RQt (.bool true) w)) := by
  have h := c_impl_ValidTrees ha2 ha3 ha4 (a0 := a0) (a1 := a1)
  rw [decide_eq_true hv] at h; exact h
theorem c_impl_CountTreesRead_y {w : World} {a0 : Int} {a1 : Int} {va2 : Value} {xa2 : List Int} {va3 : Value} {xa3 : List Int} {va4 : Value} {xa4 : List Bool} {n : Int} (ha2 : Rd EI w va2 xa2) (ha3 : Rd EI w va3 xa3) (ha4 : Rd EB w va4 xa4) (hv : (1 ≤ a0 ∧ a0 ≤ 16) ∧ (1 ≤ a1 ∧ a1 ≤ 4) ∧ (xa2.length : Int) = a1 ∧ (xa3.length : Int) = a0 * a0 ∧ (xa4.length : Int) = a0 ∧ allIn xa2 0 (a0 - 1) = true ∧ allIn xa3 0 (a0 - 1) = true) (hn18 : 1 ≤ n ∧ n ≤ 8) : Calls Try.prog 57 #[.agg #[.int .i64 a0, .int .i64 a1, va2, va3, va4], .int .i64 n] w (Ret1 (RQt (.tuple #[.int .i64 (ctI true a0 xa2 xa3 xa4 n), .bool true]) w)) := by
  have hvb := treesB_yes hv
  have h := c_impl_CountTreesRead ha2 ha3 ha4 (a0 := a0) (a1 := a1) (n := n)
  rw [hvb, ct_yb rfl hn18] at h; exact h
theorem c_impl_WordHasTree_y {w : World} {a0 : Int} {a1 : Int} {va2 : Value} {xa2 : List Int} {va3 : Value} {xa3 : List Int} {va4 : Value} {xa4 : List Bool} {vw : Value} {xs : List Int} (ha2 : Rd EI w va2 xa2) (ha3 : Rd EI w va3 xa3) (ha4 : Rd EB w va4 xa4) (hw : Rd EI w vw xs) (hv : (1 ≤ a0 ∧ a0 ≤ 16) ∧ (1 ≤ a1 ∧ a1 ≤ 4) ∧ (xa2.length : Int) = a1 ∧ (xa3.length : Int) = a0 * a0 ∧ (xa4.length : Int) = a0 ∧ allIn xa2 0 (a0 - 1) = true ∧ allIn xa3 0 (a0 - 1) = true) (hwb : isWordB xs a1 = true) (h1 : 1 ≤ xs.length) : Calls Try.prog 58 #[.agg #[.int .i64 a0, .int .i64 a1, va2, va3, va4], vw] w (Ret1 (RQt (.tuple #[.bool (hasT a0 xa2 xa3 xs xa4), .bool true]) w)) := by
  have hvb := treesB_yes hv
  have h := c_impl_WordHasTree ha2 ha3 ha4 hw (a0 := a0) (a1 := a1)
  rw [whR, whB_y hvb hwb h1, Bool.true_and] at h; exact h
theorem c_impl_FirstTree_y {w : World} {a0 : Int} {a1 : Int} {va2 : Value} {xa2 : List Int} {va3 : Value} {xa3 : List Int} {va4 : Value} {xa4 : List Bool}  (ha2 : Rd EI w va2 xa2) (ha3 : Rd EI w va3 xa3) (ha4 : Rd EB w va4 xa4) (hv : (1 ≤ a0 ∧ a0 ≤ 16) ∧ (1 ≤ a1 ∧ a1 ≤ 4) ∧ (xa2.length : Int) = a1 ∧ (xa3.length : Int) = a0 * a0 ∧ (xa4.length : Int) = a0 ∧ allIn xa2 0 (a0 - 1) = true ∧ allIn xa3 0 (a0 - 1) = true) : Calls Try.prog 59 #[.agg #[.int .i64 a0, .int .i64 a1, va2, va3, va4]] w (Ret1 (fun v w' => Ext w w' ∧ ∃ u og_u, v = .tuple #[u, .bool (ftB true xa4 (foundL a0 xa3 xa2))] ∧ Osl VI w' og_u u (ftT true xa4 (foundL a0 xa3 xa2)) ∧ Lo w og_u)) := by
  have hvb := treesB_yes hv
  have h := c_impl_FirstTree ha2 ha3 ha4 (a0 := a0) (a1 := a1)
  rw [hvb] at h; exact h
set_option maxHeartbeats 8000000 in
set_option maxRecDepth 100000 in
theorem c_laws_FnTrees {w : World} {va vb : Value} {xs ys : List Int} (ha : Rd EU8 w va xs) (hb : Rd EU8 w vb ys) (hg : ∀ x ∈ xs, 0 ≤ x ∧ x ≤ 255) (hgb : ∀ x ∈ ys, 0 ≤ x ∧ x ≤ 255) : Calls Try.prog 5 #[va, vb] w (Ret1 (RQt (.bool true) w)) := by
  have hB : Ext w w := Ext.refl w
  have hla := ha.leI; have hlb := hb.leI; have hr40 := at8_rng (i := (40 : Int).toNat) (n := 3) hgb (by decide); have hr41 := at8_rng (i := (41 : Int).toNat) (n := 4) hgb (by decide); have hr42 := at8_rng (i := (42 : Int).toNat) (n := 4) hgb (by decide); have hr43 := at8_rng (i := (43 : Int).toNat) (n := 6) hgb (by decide)
  refine callsOf (vs := [_, _]) Try.func5 rfl Try.ntmps5 rfl rfl ?_
  refine CW.seq ?_
  refine CW.reg ?_
  refine WL.asg rfl rfl ?_
  refine WL.nilS ?_
  refine CW.seq ?_
  refine CW.seq ?_
  refine CW.reg ?_
  refine WL.mv rfl rfl ?_
  refine WL.mv rfl rfl ?_
  refine WL.op rfl (OpK.callR rfl T.cf22 rfl (c_laws_r8Long (by first | assumption | exact Rd.up (by assumption) hB | exact Osl.rd (by assumption) | exact Osn.rdR (by assumption) | exact NL.rd (by assumption) | exact rdII (by assumption) (by assumption) | exact Inn.rd (by assumption) (by omega)) (by first | assumption | exact Rd.up (by assumption) hB | exact Osl.rd (by assumption) | exact Osn.rdR (by assumption) | exact NL.rd (by assumption) | exact rdII (by assumption) (by assumption) | exact Inn.rd (by assumption) (by omega))) (fun w1 hXw1 => ?_))
  have hB := hB.trans hXw1
  refine WL.nilS ?_
  refine CW.cond rfl (fun hc1 => ?_) (fun hc1 => ?_)
  · skip
    try simp only [nq] at hc1
    refine CW.seq ?_
    refine CW.reg ?_
    refine WL.asg rfl rfl ?_
    refine WL.nilS ?_
    refine CW.ret ?_
    refine RQ.then ?_
    refine RQ.r1 rfl ?_
    refine ⟨?_, hB⟩
    rfl
  try simp only [nq] at hc1
  refine CW.skipS ?_
  refine CW.seq ?_
  refine CW.reg ?_
  refine WL.mv rfl rfl ?_
  refine WL.op rfl (OpK.callR rfl T.cf23 rfl (c_laws_r8At (by first | assumption | exact Rd.up (by assumption) hB | exact Osl.rd (by assumption) | exact Osn.rdR (by assumption) | exact NL.rd (by assumption) | exact rdII (by assumption) (by assumption) | exact Inn.rd (by assumption) (by omega)) (by first | assumption | omega | (simp only [marks_len, marksB_len, marksR_len]; omega)) (by first | assumption | omega | (simp only [marks_len, marksB_len, marksR_len]; omega))) (fun w2 hXw2 => ?_))
  have hB := hB.trans hXw2
  refine WL.pure rfl rfl rfl (PV.add rfl rfl (by constructor <;> omega)) ?_
  refine WL.asg rfl rfl ?_
  refine WL.nilS ?_
  refine CW.seq ?_
  refine CW.reg ?_
  refine WL.mv rfl rfl ?_
  refine WL.mv rfl rfl ?_
  refine WL.op rfl (OpK.callR rfl T.cf23 rfl (c_laws_r8At (by first | assumption | exact Rd.up (by assumption) hB | exact Osl.rd (by assumption) | exact Osn.rdR (by assumption) | exact NL.rd (by assumption) | exact rdII (by assumption) (by assumption) | exact Inn.rd (by assumption) (by omega)) (by first | assumption | omega | (simp only [marks_len, marksB_len, marksR_len]; omega)) (by first | assumption | omega | (simp only [marks_len, marksB_len, marksR_len]; omega))) (fun w3 hXw3 => ?_))
  have hB := hB.trans hXw3
  refine WL.pure rfl rfl rfl (PV.add rfl rfl (by constructor <;> omega)) ?_
  refine WL.mv rfl rfl ?_
  refine WL.op rfl (OpK.call rfl T.cf43 rfl (c_spec_R8Trees hB (by first | assumption | exact Rd.up (by assumption) hB | exact Osl.rd (by assumption) | exact Osn.rdR (by assumption) | exact NL.rd (by assumption) | exact rdII (by assumption) (by assumption) | exact Inn.rd (by assumption) (by omega)) (by first | assumption | omega | (simp only [marks_len, marksB_len, marksR_len]; omega)) (by first | assumption | omega | (simp only [marks_len, marksB_len, marksR_len]; omega)) (by first | assumption | omega | (simp only [marks_len, marksB_len, marksR_len]; omega))) (fun rv1 w4 hR => ?_))
  obtain ⟨hUC1, x22, x33, x44, v5, og5, v6, og6, v7, og7, rfl, hm8, ho5, hq5, ho6, hq6, ho7, hq7, hd5_6, hd5_7, hd6_7⟩ := hR
  have hl5 := Lo.up hq5 hB
  have hl6 := Lo.up hq6 hB
  have hl7 := Lo.up hq7 hB
  have hB := hB.loop hUC1 trivial
  refine WL.op rfl (OpK.alloc rfl T.zv72 rfl (fun b9 w5 hXw5 hb9 hge9 => ?_))
  have hl9 := Lo.new hB hge9
  have hd5_9 := Dj.new ho5.ltO hge9
  have hd6_9 := Dj.new ho6.ltO hge9
  have hd7_9 := Dj.new ho7.ltO hge9
  have hB := hB.trans hXw5
  have ho5 := ho5.up hXw5
  have ho6 := ho6.up hXw5
  have ho7 := ho7.up hXw5
  refine WL.op rfl (OpK.storeA T.sz72 rfl rfl rfl rfl (by simp [Value.oneCell'] <;> first | done | (repeat' apply And.intro) <;> first | rfl | exact Inn.one1 (by assumption) (by omega) | exact Osl.oneCell (by assumption) | exact Osn.oneCell (by assumption) | exact Rd.oneCell (by assumption) | exact Rd.oneCell (NL.rd (by assumption)) | assumption) hb9 (fun w6 hXw6 hb9 => ?_))
  have hB := hB.updL hXw6 hl9
  have ho5 := ho5.updD hXw6 hd5_9
  have ho6 := ho6.updD hXw6 hd6_9
  have ho7 := ho7.updD hXw6 hd7_9
  refine WL.nilS ?_
  refine CW.seq ?_
  refine CW.reg ?_
  refine WL.mv rfl rfl ?_
  refine WL.mv rfl rfl ?_
  refine WL.op rfl (OpK.callR rfl T.cf23 rfl (c_laws_r8At (by first | assumption | exact Rd.up (by assumption) hB | exact Osl.rd (by assumption) | exact Osn.rdR (by assumption) | exact NL.rd (by assumption) | exact rdII (by assumption) (by assumption) | exact Inn.rd (by assumption) (by omega)) (by first | assumption | omega | (simp only [marks_len, marksB_len, marksR_len]; omega)) (by first | assumption | omega | (simp only [marks_len, marksB_len, marksR_len]; omega))) (fun w7 hXw7 => ?_))
  have hB := hB.trans hXw7
  have ho5 := ho5.up hXw7
  have ho6 := ho6.up hXw7
  have ho7 := ho7.up hXw7
  have hb9 := hb9.up hXw7
  refine WL.pure rfl rfl rfl (PV.add rfl rfl (by constructor <;> omega)) ?_
  refine WL.mv rfl rfl ?_
  refine WL.op rfl (OpK.call rfl T.cf43 rfl (c_spec_R8Trees hB (by first | assumption | exact Rd.up (by assumption) hB | exact Osl.rd (by assumption) | exact Osn.rdR (by assumption) | exact NL.rd (by assumption) | exact rdII (by assumption) (by assumption) | exact Inn.rd (by assumption) (by omega)) (by first | assumption | omega | (simp only [marks_len, marksB_len, marksR_len]; omega)) (by first | assumption | omega | (simp only [marks_len, marksB_len, marksR_len]; omega)) (by first | assumption | omega | (simp only [marks_len, marksB_len, marksR_len]; omega))) (fun rv2 w8 hR => ?_))
  obtain ⟨hUC10, x211, x312, x413, v14, og14, v15, og15, v16, og16, rfl, hm17, ho14, hq14, ho15, hq15, ho16, hq16, hd14_15, hd14_16, hd15_16⟩ := hR
  have hl14 := Lo.up hq14 hB
  have hd5_14 := Dj.lo ho5.ltO hq14
  have hd6_14 := Dj.lo ho6.ltO hq14
  have hd7_14 := Dj.lo ho7.ltO hq14
  have hd9_14 := Dj.lo hb9.ltO hq14
  have hl15 := Lo.up hq15 hB
  have hd5_15 := Dj.lo ho5.ltO hq15
  have hd6_15 := Dj.lo ho6.ltO hq15
  have hd7_15 := Dj.lo ho7.ltO hq15
  have hd9_15 := Dj.lo hb9.ltO hq15
  have hl16 := Lo.up hq16 hB
  have hd5_16 := Dj.lo ho5.ltO hq16
  have hd6_16 := Dj.lo ho6.ltO hq16
  have hd7_16 := Dj.lo ho7.ltO hq16
  have hd9_16 := Dj.lo hb9.ltO hq16
  have ho5 := ho5.loop hUC10 trivial
  have ho6 := ho6.loop hUC10 trivial
  have ho7 := ho7.loop hUC10 trivial
  have hb9 := hb9.loop hUC10 trivial
  have hB := hB.loop hUC10 trivial
  refine WL.op rfl (OpK.alloc rfl T.zv72 rfl (fun b18 w9 hXw9 hb18 hge18 => ?_))
  have hl18 := Lo.new hB hge18
  have hd5_18 := Dj.new ho5.ltO hge18
  have hd6_18 := Dj.new ho6.ltO hge18
  have hd7_18 := Dj.new ho7.ltO hge18
  have hd9_18 := Dj.new hb9.ltO hge18
  have hd14_18 := Dj.new ho14.ltO hge18
  have hd15_18 := Dj.new ho15.ltO hge18
  have hd16_18 := Dj.new ho16.ltO hge18
  have hB := hB.trans hXw9
  have ho5 := ho5.up hXw9
  have ho6 := ho6.up hXw9
  have ho7 := ho7.up hXw9
  have hb9 := hb9.up hXw9
  have ho14 := ho14.up hXw9
  have ho15 := ho15.up hXw9
  have ho16 := ho16.up hXw9
  refine WL.op rfl (OpK.storeA T.sz72 rfl rfl rfl rfl (by simp [Value.oneCell'] <;> first | done | (repeat' apply And.intro) <;> first | rfl | exact Inn.one1 (by assumption) (by omega) | exact Osl.oneCell (by assumption) | exact Osn.oneCell (by assumption) | exact Rd.oneCell (by assumption) | exact Rd.oneCell (NL.rd (by assumption)) | assumption) hb18 (fun w10 hXw10 hb18 => ?_))
  have hB := hB.updL hXw10 hl18
  have ho5 := ho5.updD hXw10 hd5_18
  have ho6 := ho6.updD hXw10 hd6_18
  have ho7 := ho7.updD hXw10 hd7_18
  have hb9 := hb9.updD hXw10 hd9_18
  have ho14 := ho14.updD hXw10 hd14_18
  have ho15 := ho15.updD hXw10 hd15_18
  have ho16 := ho16.updD hXw10 hd16_18
  refine WL.nilS ?_
  refine CW.seq ?_
  refine CW.reg ?_
  refine WL.mv rfl rfl ?_
  refine WL.mv rfl rfl ?_
  refine WL.op rfl (OpK.call rfl T.cf44 rfl (c_spec_R8Tree hB (by first | assumption | exact Rd.up (by assumption) hB | exact Osl.rd (by assumption) | exact Osn.rdR (by assumption) | exact NL.rd (by assumption) | exact rdII (by assumption) (by assumption) | exact Inn.rd (by assumption) (by omega)) (by first | assumption | omega | (simp only [marks_len, marksB_len, marksR_len]; omega)) (by first | assumption | omega | (simp only [marks_len, marksB_len, marksR_len]; omega))) (fun rv3 w11 hR => ?_))
  obtain ⟨hUC19, T20, v21, og21, rfl, hm22, ho21, hq21⟩ := hR
  have hl21 := Lo.up hq21 hB
  have hd5_21 := Dj.lo ho5.ltO hq21
  have hd6_21 := Dj.lo ho6.ltO hq21
  have hd7_21 := Dj.lo ho7.ltO hq21
  have hd9_21 := Dj.lo hb9.ltO hq21
  have hd14_21 := Dj.lo ho14.ltO hq21
  have hd15_21 := Dj.lo ho15.ltO hq21
  have hd16_21 := Dj.lo ho16.ltO hq21
  have hd18_21 := Dj.lo hb18.ltO hq21
  have ho5 := ho5.loop hUC19 trivial
  have ho6 := ho6.loop hUC19 trivial
  have ho7 := ho7.loop hUC19 trivial
  have hb9 := hb9.loop hUC19 trivial
  have ho14 := ho14.loop hUC19 trivial
  have ho15 := ho15.loop hUC19 trivial
  have ho16 := ho16.loop hUC19 trivial
  have hb18 := hb18.loop hUC19 trivial
  have hB := hB.loop hUC19 trivial
  refine WL.asg rfl rfl ?_
  refine WL.nilS ?_
  refine CW.seq ?_
  refine CW.reg ?_
  have hT := hm22.1; have hT4 : okTr 4 T20 := okTr_mono (by omega) T20 hT; have hfl := flt_len T20; have h23 : (flatT T20).length ≤ 23 := (by have := hm22.2; omega); have hMT4 := mir_ok T20 hT4; have hM23 : (flatT (mirT T20)).length ≤ 23 := (by rw [mir_len]; exact h23); have hdl := deep_lv T20; have hdr := deep_rng T20; have hmmf : flatT (mirT (mirT T20)) = flatT T20 := congrArg flatT (mir_mir T20); have hmlv := mir_lv T20; have hmdp := mir_deep T20; have hlp := lv_pos T20; have tv : TV (1 + at8 ys (Int.toNat 41) 4) (1 + at8 ys (Int.toNat 40) 3) x22 x33 := ⟨hm8.1, hm8.2.1, hm8.2.2.1, hm8.2.2.2.1, hm8.2.2.2.2.2.1, hm8.2.2.2.2.2.2⟩; have tv2 : TV (1 + at8 ys (Int.toNat 42) 4) (1 + at8 ys (Int.toNat 40) 3) x211 x312 := ⟨hm17.1, hm17.2.1, hm17.2.2.1, hm17.2.2.2.1, hm17.2.2.2.2.2.1, hm17.2.2.2.2.2.2⟩; have hL3 : 1 ≤ (1 + at8 ys (Int.toNat 40) 3) ∧ (1 + at8 ys (Int.toNat 40) 3) ≤ 3 := (by omega); have hen := hm8.2.2.2.2.1; have hsr := st_rng tv.s tv.ll tv.nl tv.li tv.ni T20 hT; have h16 : (1 + at8 ys (Int.toNat 41) 4) * (1 + at8 ys (Int.toNat 42) 4) ≤ 16 := (by have h4 : (1 + at8 ys (Int.toNat 41) 4) * (1 + at8 ys (Int.toNat 42) 4) ≤ 4 * 4 := Int.mul_le_mul (by omega) (by omega) (by omega) (by omega); omega); have hvO : (1 ≤ (1 + at8 ys (Int.toNat 41) 4) ∧ (1 + at8 ys (Int.toNat 41) 4) ≤ 16) ∧ (1 ≤ (1 + at8 ys (Int.toNat 40) 3) ∧ (1 + at8 ys (Int.toNat 40) 3) ≤ 4) ∧ (x22.length : Int) = (1 + at8 ys (Int.toNat 40) 3) ∧ (x33.length : Int) = (1 + at8 ys (Int.toNat 41) 4) * (1 + at8 ys (Int.toNat 41) 4) ∧ ((x44.map not).length : Int) = (1 + at8 ys (Int.toNat 41) 4) ∧ allIn x22 0 ((1 + at8 ys (Int.toNat 41) 4) - 1) = true ∧ allIn x33 0 ((1 + at8 ys (Int.toNat 41) 4) - 1) = true := ⟨hm8.1, hm8.2.1, hm8.2.2.1, hm8.2.2.2.1, by rw [List.length_map]; exact hen, hm8.2.2.2.2.2.1, hm8.2.2.2.2.2.2⟩
  refine WL.mv rfl rfl ?_
  refine WL.op rfl (OpK.call rfl T.cf45 rfl (c_impl_LeavesOfTree_y (Osl.rd ho21) (by first | assumption | omega | (simp only [marks_len, marksB_len, marksR_len]; omega)) (by first | rfl | assumption) (by first | assumption | omega | (simp only [marks_len, marksB_len, marksR_len]; omega)) (by first | assumption | omega | (simp only [marks_len, marksB_len, marksR_len]; omega))) (fun rv4 w12 hR => ?_))
  obtain ⟨hXw12, v23, og23, rfl, ho23, hq23⟩ := hR
  have hl23 := Lo.up hq23 hB
  have hd5_23 := Dj.lo ho5.ltO hq23
  have hd6_23 := Dj.lo ho6.ltO hq23
  have hd7_23 := Dj.lo ho7.ltO hq23
  have hd9_23 := Dj.lo hb9.ltO hq23
  have hd14_23 := Dj.lo ho14.ltO hq23
  have hd15_23 := Dj.lo ho15.ltO hq23
  have hd16_23 := Dj.lo ho16.ltO hq23
  have hd18_23 := Dj.lo hb18.ltO hq23
  have hd21_23 := Dj.lo ho21.ltO hq23
  have hB := hB.trans hXw12
  have ho5 := ho5.up hXw12
  have ho6 := ho6.up hXw12
  have ho7 := ho7.up hXw12
  have hb9 := hb9.up hXw12
  have ho14 := ho14.up hXw12
  have ho15 := ho15.up hXw12
  have ho16 := ho16.up hXw12
  have hb18 := hb18.up hXw12
  have ho21 := ho21.up hXw12
  refine WL.mv rfl rfl ?_
  refine WL.pure rfl rfl rfl (PV.extract rfl rfl) ?_
  refine WL.pure rfl rfl rfl (PV.extract rfl rfl) ?_
  refine WL.asg rfl rfl ?_
  refine WL.asg rfl rfl ?_
  refine WL.nilS ?_
  refine CW.seq ?_
  refine CW.reg ?_
  refine WL.mv rfl rfl ?_
  refine WL.op rfl (OpK.callR rfl T.cf46 rfl (c_impl_DeepOfTree_y (Osl.rd ho21) (by first | assumption | omega | (simp only [marks_len, marksB_len, marksR_len]; omega)) (by first | rfl | assumption) (by first | assumption | omega | (simp only [marks_len, marksB_len, marksR_len]; omega)) (by first | assumption | omega | (simp only [marks_len, marksB_len, marksR_len]; omega))) (fun w13 hXw13 => ?_))
  have hB := hB.trans hXw13
  have ho5 := ho5.up hXw13
  have ho6 := ho6.up hXw13
  have ho7 := ho7.up hXw13
  have hb9 := hb9.up hXw13
  have ho14 := ho14.up hXw13
  have ho15 := ho15.up hXw13
  have ho16 := ho16.up hXw13
  have hb18 := hb18.up hXw13
  have ho21 := ho21.up hXw13
  have ho23 := ho23.up hXw13
  refine WL.mv rfl rfl ?_
  refine WL.pure rfl rfl rfl (PV.extract rfl rfl) ?_
  refine WL.pure rfl rfl rfl (PV.extract rfl rfl) ?_
  refine WL.asg rfl rfl ?_
  refine WL.asg rfl rfl ?_
  refine WL.nilS ?_
  refine CW.seq ?_
  refine CW.reg ?_
  refine WL.mv rfl rfl ?_
  refine WL.op rfl (OpK.call rfl T.cf47 rfl (c_impl_MirrorTree_y (Osl.rd ho21) (by first | assumption | omega | (simp only [marks_len, marksB_len, marksR_len]; omega)) (by first | rfl | assumption) (by first | assumption | omega | (simp only [marks_len, marksB_len, marksR_len]; omega)) (by first | assumption | omega | (simp only [marks_len, marksB_len, marksR_len]; omega))) (fun rv5 w14 hR => ?_))
  obtain ⟨hXw14, v24, og24, rfl, ho24, hq24⟩ := hR
  have hl24 := Lo.up hq24 hB
  have hd5_24 := Dj.lo ho5.ltO hq24
  have hd6_24 := Dj.lo ho6.ltO hq24
  have hd7_24 := Dj.lo ho7.ltO hq24
  have hd9_24 := Dj.lo hb9.ltO hq24
  have hd14_24 := Dj.lo ho14.ltO hq24
  have hd15_24 := Dj.lo ho15.ltO hq24
  have hd16_24 := Dj.lo ho16.ltO hq24
  have hd18_24 := Dj.lo hb18.ltO hq24
  have hd21_24 := Dj.lo ho21.ltO hq24
  have hd23_24 := Dj.lo ho23.ltO hq24
  have hB := hB.trans hXw14
  have ho5 := ho5.up hXw14
  have ho6 := ho6.up hXw14
  have ho7 := ho7.up hXw14
  have hb9 := hb9.up hXw14
  have ho14 := ho14.up hXw14
  have ho15 := ho15.up hXw14
  have ho16 := ho16.up hXw14
  have hb18 := hb18.up hXw14
  have ho21 := ho21.up hXw14
  have ho23 := ho23.up hXw14
  refine WL.mv rfl rfl ?_
  refine WL.pure rfl rfl rfl (PV.extract rfl rfl) ?_
  refine WL.pure rfl rfl rfl (PV.extract rfl rfl) ?_
  refine WL.asg rfl rfl ?_
  refine WL.asg rfl rfl ?_
  refine WL.nilS ?_
  refine CW.seq ?_
  refine CW.reg ?_
  refine WL.mv rfl rfl ?_
  refine WL.op rfl (OpK.call rfl T.cf47 rfl (c_impl_MirrorTree_y (Osl.rd ho24) (by first | assumption | omega | (simp only [marks_len, marksB_len, marksR_len]; omega)) (by first | rfl | assumption) (by first | assumption | omega | (simp only [marks_len, marksB_len, marksR_len]; omega)) (by first | assumption | omega | (simp only [marks_len, marksB_len, marksR_len]; omega))) (fun rv6 w15 hR => ?_))
  obtain ⟨hXw15, v25, og25, rfl, ho25, hq25⟩ := hR
  have hl25 := Lo.up hq25 hB
  have hd5_25 := Dj.lo ho5.ltO hq25
  have hd6_25 := Dj.lo ho6.ltO hq25
  have hd7_25 := Dj.lo ho7.ltO hq25
  have hd9_25 := Dj.lo hb9.ltO hq25
  have hd14_25 := Dj.lo ho14.ltO hq25
  have hd15_25 := Dj.lo ho15.ltO hq25
  have hd16_25 := Dj.lo ho16.ltO hq25
  have hd18_25 := Dj.lo hb18.ltO hq25
  have hd21_25 := Dj.lo ho21.ltO hq25
  have hd23_25 := Dj.lo ho23.ltO hq25
  have hd24_25 := Dj.lo ho24.ltO hq25
  have hB := hB.trans hXw15
  have ho5 := ho5.up hXw15
  have ho6 := ho6.up hXw15
  have ho7 := ho7.up hXw15
  have hb9 := hb9.up hXw15
  have ho14 := ho14.up hXw15
  have ho15 := ho15.up hXw15
  have ho16 := ho16.up hXw15
  have hb18 := hb18.up hXw15
  have ho21 := ho21.up hXw15
  have ho23 := ho23.up hXw15
  have ho24 := ho24.up hXw15
  refine WL.mv rfl rfl ?_
  refine WL.pure rfl rfl rfl (PV.extract rfl rfl) ?_
  refine WL.pure rfl rfl rfl (PV.extract rfl rfl) ?_
  refine WL.asg rfl rfl ?_
  refine WL.asg rfl rfl ?_
  refine WL.nilS ?_
  refine CW.seq ?_
  refine CW.reg ?_
  refine WL.mv rfl rfl ?_
  refine WL.op rfl (OpK.call rfl T.cf45 rfl (c_impl_LeavesOfTree_y (Osl.rd ho24) (by first | assumption | omega | (simp only [marks_len, marksB_len, marksR_len]; omega)) (by first | rfl | assumption) (by first | assumption | omega | (simp only [marks_len, marksB_len, marksR_len]; omega)) (by first | assumption | omega | (simp only [marks_len, marksB_len, marksR_len]; omega))) (fun rv7 w16 hR => ?_))
  obtain ⟨hXw16, v26, og26, rfl, ho26, hq26⟩ := hR
  have hl26 := Lo.up hq26 hB
  have hd5_26 := Dj.lo ho5.ltO hq26
  have hd6_26 := Dj.lo ho6.ltO hq26
  have hd7_26 := Dj.lo ho7.ltO hq26
  have hd9_26 := Dj.lo hb9.ltO hq26
  have hd14_26 := Dj.lo ho14.ltO hq26
  have hd15_26 := Dj.lo ho15.ltO hq26
  have hd16_26 := Dj.lo ho16.ltO hq26
  have hd18_26 := Dj.lo hb18.ltO hq26
  have hd21_26 := Dj.lo ho21.ltO hq26
  have hd23_26 := Dj.lo ho23.ltO hq26
  have hd24_26 := Dj.lo ho24.ltO hq26
  have hd25_26 := Dj.lo ho25.ltO hq26
  have hB := hB.trans hXw16
  have ho5 := ho5.up hXw16
  have ho6 := ho6.up hXw16
  have ho7 := ho7.up hXw16
  have hb9 := hb9.up hXw16
  have ho14 := ho14.up hXw16
  have ho15 := ho15.up hXw16
  have ho16 := ho16.up hXw16
  have hb18 := hb18.up hXw16
  have ho21 := ho21.up hXw16
  have ho23 := ho23.up hXw16
  have ho24 := ho24.up hXw16
  have ho25 := ho25.up hXw16
  refine WL.mv rfl rfl ?_
  refine WL.pure rfl rfl rfl (PV.extract rfl rfl) ?_
  refine WL.pure rfl rfl rfl (PV.extract rfl rfl) ?_
  refine WL.asg rfl rfl ?_
  refine WL.asg rfl rfl ?_
  refine WL.nilS ?_
  refine CW.seq ?_
  refine CW.reg ?_
  refine WL.mv rfl rfl ?_
  refine WL.op rfl (OpK.callR rfl T.cf46 rfl (c_impl_DeepOfTree_y (Osl.rd ho24) (by first | assumption | omega | (simp only [marks_len, marksB_len, marksR_len]; omega)) (by first | rfl | assumption) (by first | assumption | omega | (simp only [marks_len, marksB_len, marksR_len]; omega)) (by first | assumption | omega | (simp only [marks_len, marksB_len, marksR_len]; omega))) (fun w17 hXw17 => ?_))
  have hB := hB.trans hXw17
  have ho5 := ho5.up hXw17
  have ho6 := ho6.up hXw17
  have ho7 := ho7.up hXw17
  have hb9 := hb9.up hXw17
  have ho14 := ho14.up hXw17
  have ho15 := ho15.up hXw17
  have ho16 := ho16.up hXw17
  have hb18 := hb18.up hXw17
  have ho21 := ho21.up hXw17
  have ho23 := ho23.up hXw17
  have ho24 := ho24.up hXw17
  have ho25 := ho25.up hXw17
  have ho26 := ho26.up hXw17
  refine WL.mv rfl rfl ?_
  refine WL.pure rfl rfl rfl (PV.extract rfl rfl) ?_
  refine WL.pure rfl rfl rfl (PV.extract rfl rfl) ?_
  refine WL.asg rfl rfl ?_
  refine WL.asg rfl rfl ?_
  refine WL.nilS ?_
  refine CW.seq ?_
  refine CW.seq ?_
  refine CW.reg ?_
  refine WL.mv rfl rfl ?_
  refine WL.pure rfl rfl rfl (PV.not rfl) ?_
  refine WL.mv rfl rfl ?_
  refine WL.pureG rfl rfl rfl rfl rfl (PV.move rfl) ?_
  refine WL.pureG rfl rfl rfl rfl rfl (PV.not rfl) ?_
  refine WL.pure rfl rfl rfl (PV.pickF rfl rfl) ?_
  refine WL.mv rfl rfl ?_
  refine WL.pureG rfl rfl rfl rfl rfl (PV.move rfl) ?_
  refine WL.pureG rfl rfl rfl rfl rfl (PV.not rfl) ?_
  refine WL.pure rfl rfl rfl (PV.pickF rfl rfl) ?_
  refine WL.mv rfl rfl ?_
  refine WL.pureG rfl rfl rfl rfl rfl (PV.move rfl) ?_
  refine WL.pureG rfl rfl rfl rfl rfl (PV.not rfl) ?_
  refine WL.pure rfl rfl rfl (PV.pickF rfl rfl) ?_
  refine WL.mv rfl rfl ?_
  refine WL.pureG rfl rfl rfl rfl rfl (PV.move rfl) ?_
  refine WL.pureG rfl rfl rfl rfl rfl (PV.not rfl) ?_
  refine WL.pure rfl rfl rfl (PV.pickF rfl rfl) ?_
  refine WL.mv rfl rfl ?_
  refine WL.pureG rfl rfl rfl rfl rfl (PV.move rfl) ?_
  refine WL.pureG rfl rfl rfl rfl rfl (PV.not rfl) ?_
  refine WL.pure rfl rfl rfl (PV.pickF rfl rfl) ?_
  refine WL.mv rfl rfl ?_
  refine WL.pureG rfl rfl rfl rfl rfl (PV.move rfl) ?_
  refine WL.pureG rfl rfl rfl rfl rfl (PV.move rfl) ?_
  refine WL.opG rfl rfl rfl (OpK.callR rfl T.cf48 rfl (c_impl_IsTree_y (Osl.rd ho21) (by first | assumption | omega | (simp only [marks_len, marksB_len, marksR_len]; omega)) (by first | rfl | assumption) (by first | assumption | omega | (simp only [marks_len, marksB_len, marksR_len]; omega)) (by first | assumption | omega | (simp only [marks_len, marksB_len, marksR_len]; omega)) (by first | assumption | omega | (simp only [marks_len, marksB_len, marksR_len]; omega))) (fun w18 hXw18 => ?_))
  have hB := hB.trans hXw18
  have ho5 := ho5.up hXw18
  have ho6 := ho6.up hXw18
  have ho7 := ho7.up hXw18
  have hb9 := hb9.up hXw18
  have ho14 := ho14.up hXw18
  have ho15 := ho15.up hXw18
  have ho16 := ho16.up hXw18
  have hb18 := hb18.up hXw18
  have ho21 := ho21.up hXw18
  have ho23 := ho23.up hXw18
  have ho24 := ho24.up hXw18
  have ho25 := ho25.up hXw18
  have ho26 := ho26.up hXw18
  refine WL.pureG rfl rfl rfl rfl rfl (PV.not rfl) ?_
  refine WL.pure rfl rfl rfl (PV.pickF rfl rfl) ?_
  refine WL.mv rfl rfl ?_
  refine WL.pureG rfl rfl rfl rfl rfl (PV.move rfl) ?_
  refine WL.pureG rfl rfl rfl rfl rfl (PV.move rfl) ?_
  refine WL.opG rfl rfl rfl (OpK.callR rfl T.cf49 rfl (c_laws_r8Same_y (Osl.rd ho25) (Osl.rd ho21) (by first | rfl | assumption)) (fun w19 hXw19 => ?_))
  have hB := hB.trans hXw19
  have ho5 := ho5.up hXw19
  have ho6 := ho6.up hXw19
  have ho7 := ho7.up hXw19
  have hb9 := hb9.up hXw19
  have ho14 := ho14.up hXw19
  have ho15 := ho15.up hXw19
  have ho16 := ho16.up hXw19
  have hb18 := hb18.up hXw19
  have ho21 := ho21.up hXw19
  have ho23 := ho23.up hXw19
  have ho24 := ho24.up hXw19
  have ho25 := ho25.up hXw19
  have ho26 := ho26.up hXw19
  refine WL.pureG rfl rfl rfl rfl rfl (PV.not rfl) ?_
  refine WL.pure rfl rfl rfl (PV.pickF rfl rfl) ?_
  refine WL.mv rfl rfl ?_
  refine WL.pureG rfl rfl rfl rfl rfl (PV.move rfl) ?_
  refine WL.pureG rfl rfl rfl rfl rfl (PV.move rfl) ?_
  refine WL.opG rfl rfl rfl (OpK.call rfl T.cf31 rfl (c_laws_r8Back (Osl.rd ho23) (by first | assumption | omega | (simp only [marks_len, marksB_len, marksR_len]; omega))) (fun rv8 w20 hR => ?_))
  obtain ⟨hXw20, v27, og27, rfl, ho27, hq27⟩ := hR
  have hl27 := Lo.up hq27 hB
  have hd5_27 := Dj.lo ho5.ltO hq27
  have hd6_27 := Dj.lo ho6.ltO hq27
  have hd7_27 := Dj.lo ho7.ltO hq27
  have hd9_27 := Dj.lo hb9.ltO hq27
  have hd14_27 := Dj.lo ho14.ltO hq27
  have hd15_27 := Dj.lo ho15.ltO hq27
  have hd16_27 := Dj.lo ho16.ltO hq27
  have hd18_27 := Dj.lo hb18.ltO hq27
  have hd21_27 := Dj.lo ho21.ltO hq27
  have hd23_27 := Dj.lo ho23.ltO hq27
  have hd24_27 := Dj.lo ho24.ltO hq27
  have hd25_27 := Dj.lo ho25.ltO hq27
  have hd26_27 := Dj.lo ho26.ltO hq27
  have hB := hB.trans hXw20
  have ho5 := ho5.up hXw20
  have ho6 := ho6.up hXw20
  have ho7 := ho7.up hXw20
  have hb9 := hb9.up hXw20
  have ho14 := ho14.up hXw20
  have ho15 := ho15.up hXw20
  have ho16 := ho16.up hXw20
  have hb18 := hb18.up hXw20
  have ho21 := ho21.up hXw20
  have ho23 := ho23.up hXw20
  have ho24 := ho24.up hXw20
  have ho25 := ho25.up hXw20
  have ho26 := ho26.up hXw20
  refine WL.opG rfl rfl rfl (OpK.callR rfl T.cf49 rfl (c_laws_r8Same_y (Osl.rd ho26) (Osl.rd ho27) (by first | rfl | assumption)) (fun w21 hXw21 => ?_))
  have hB := hB.trans hXw21
  have ho5 := ho5.up hXw21
  have ho6 := ho6.up hXw21
  have ho7 := ho7.up hXw21
  have hb9 := hb9.up hXw21
  have ho14 := ho14.up hXw21
  have ho15 := ho15.up hXw21
  have ho16 := ho16.up hXw21
  have hb18 := hb18.up hXw21
  have ho21 := ho21.up hXw21
  have ho23 := ho23.up hXw21
  have ho24 := ho24.up hXw21
  have ho25 := ho25.up hXw21
  have ho26 := ho26.up hXw21
  have ho27 := ho27.up hXw21
  refine WL.pureG rfl rfl rfl rfl rfl (PV.not rfl) ?_
  refine WL.pure rfl rfl rfl (PV.pickF rfl rfl) ?_
  refine WL.mv rfl rfl ?_
  refine WL.pureG rfl rfl rfl rfl rfl (PV.move rfl) ?_
  refine WL.pureG rfl rfl rfl rfl rfl (PV.move rfl) ?_
  refine WL.pureG rfl rfl rfl rfl rfl (PV.neq rfl rfl) ?_
  refine WL.pure rfl rfl rfl (PV.pickF rfl rfl) ?_
  refine WL.mv rfl rfl ?_
  refine WL.split (t := 154) rfl (fun hc2 => ?_) (fun hc2 => ?_)
  · skip
    try simp only [nq] at hc2
    exfalso; first | omega | (revert hc2; simp; done) | (revert hc2; simp; omega)
  try simp only [nq] at hc2
  refine WL.pureG rfl rfl rfl rfl rfl (PV.move rfl) ?_
  refine WL.pureG rfl rfl rfl rfl rfl ((PV.lenOs rfl ho21 T.sl28)) ?_
  refine WL.pureG rfl rfl rfl rfl rfl (PV.move rfl) ?_
  refine WL.pureG rfl rfl rfl rfl rfl ((PV.lenOs rfl ho23 T.sl28)) ?_
  refine WL.pureG rfl rfl rfl rfl rfl (PV.mul rfl rfl (by constructor <;> omega)) ?_
  refine WL.pureG rfl rfl rfl rfl rfl (PV.sub rfl rfl (by constructor <;> omega)) ?_
  refine WL.pureG rfl rfl rfl rfl rfl (PV.neq rfl rfl) ?_
  refine WL.pure rfl rfl rfl (PV.pickF rfl rfl) ?_
  refine WL.mv rfl rfl ?_
  refine WL.split (t := 163) rfl (fun hc3 => ?_) (fun hc3 => ?_)
  · skip
    try simp only [nq] at hc3
    exfalso; first | omega | (revert hc3; simp; done) | (revert hc3; simp; omega)
  try simp only [nq] at hc3
  refine WL.pureG rfl rfl rfl rfl rfl (PV.move rfl) ?_
  refine WL.pureG rfl rfl rfl rfl rfl (PV.lss rfl rfl) ?_
  refine WL.pure rfl rfl rfl (PV.pickF rfl rfl) ?_
  refine WL.mv rfl rfl ?_
  refine WL.split (t := 167) rfl (fun hc4 => ?_) (fun hc4 => ?_)
  · skip
    try simp only [nq] at hc4
    exfalso; first | omega | (revert hc4; simp; done) | (revert hc4; simp; omega)
  try simp only [nq] at hc4
  refine WL.pureG rfl rfl rfl rfl rfl (PV.move rfl) ?_
  refine WL.pureG rfl rfl rfl rfl rfl (PV.move rfl) ?_
  refine WL.pureG rfl rfl rfl rfl rfl ((PV.lenOs rfl ho23 T.sl28)) ?_
  refine WL.pureG rfl rfl rfl rfl rfl (PV.geq rfl rfl) ?_
  refine WL.pure rfl rfl rfl (PV.pickF rfl rfl) ?_
  refine WL.nilS ?_
  refine CW.cond rfl (fun hc5 => ?_) (fun hc5 => ?_)
  · skip
    try simp only [nq] at hc5
    exfalso; first | omega | (revert hc5; simp; done) | (revert hc5; simp; omega)
  try simp only [nq] at hc5
  refine CW.skipS ?_
  refine CW.seq ?_
  refine CW.reg ?_
  refine WL.pure rfl rfl rfl (PV.loadA T.ag72 rfl hb9.cells (Ext.refl _) rfl) ?_
  refine WL.mv rfl rfl ?_
  refine WL.op rfl (OpK.callR rfl T.cf50 rfl (c_impl_StateOfTree_y (Osl.rd ho5) (Osl.rd ho6) (Osl.rd ho7) (Osl.rd ho21) (by first | assumption | omega | (simp only [marks_len, marksB_len, marksR_len]; omega)) (by first | assumption | omega | (simp only [marks_len, marksB_len, marksR_len]; omega)) (by first | rfl | assumption) (by first | assumption | omega | (simp only [marks_len, marksB_len, marksR_len]; omega)) (by first | assumption | omega | (simp only [marks_len, marksB_len, marksR_len]; omega))) (fun w22 hXw22 => ?_))
  have hB := hB.trans hXw22
  have ho5 := ho5.up hXw22
  have ho6 := ho6.up hXw22
  have ho7 := ho7.up hXw22
  have hb9 := hb9.up hXw22
  have ho14 := ho14.up hXw22
  have ho15 := ho15.up hXw22
  have ho16 := ho16.up hXw22
  have hb18 := hb18.up hXw22
  have ho21 := ho21.up hXw22
  have ho23 := ho23.up hXw22
  have ho24 := ho24.up hXw22
  have ho25 := ho25.up hXw22
  have ho26 := ho26.up hXw22
  have ho27 := ho27.up hXw22
  refine WL.mv rfl rfl ?_
  refine WL.pure rfl rfl rfl (PV.extract rfl rfl) ?_
  refine WL.pure rfl rfl rfl (PV.extract rfl rfl) ?_
  refine WL.asg rfl rfl ?_
  refine WL.asg rfl rfl ?_
  refine WL.nilS ?_
  refine CW.seq ?_
  refine CW.reg ?_
  refine WL.pure rfl rfl rfl (PV.loadA T.ag72 rfl hb9.cells (Ext.refl _) rfl) ?_
  refine WL.mv rfl rfl ?_
  refine WL.op rfl (OpK.callR rfl T.cf51 rfl (c_impl_ReadsTree_y (Osl.rd ho5) (Osl.rd ho6) (Osl.rd ho7) (Osl.rd ho21) (by first | assumption | omega | (simp only [marks_len, marksB_len, marksR_len]; omega)) (by first | assumption | omega | (simp only [marks_len, marksB_len, marksR_len]; omega)) (by first | rfl | assumption) (by first | assumption | omega | (simp only [marks_len, marksB_len, marksR_len]; omega)) (by first | assumption | omega | (simp only [marks_len, marksB_len, marksR_len]; omega))) (fun w23 hXw23 => ?_))
  have hB := hB.trans hXw23
  have ho5 := ho5.up hXw23
  have ho6 := ho6.up hXw23
  have ho7 := ho7.up hXw23
  have hb9 := hb9.up hXw23
  have ho14 := ho14.up hXw23
  have ho15 := ho15.up hXw23
  have ho16 := ho16.up hXw23
  have hb18 := hb18.up hXw23
  have ho21 := ho21.up hXw23
  have ho23 := ho23.up hXw23
  have ho24 := ho24.up hXw23
  have ho25 := ho25.up hXw23
  have ho26 := ho26.up hXw23
  have ho27 := ho27.up hXw23
  refine WL.mv rfl rfl ?_
  refine WL.pure rfl rfl rfl (PV.extract rfl rfl) ?_
  refine WL.pure rfl rfl rfl (PV.extract rfl rfl) ?_
  refine WL.asg rfl rfl ?_
  refine WL.asg rfl rfl ?_
  refine WL.nilS ?_
  refine CW.seq ?_
  refine CW.reg ?_
  refine WL.pure rfl rfl rfl (PV.loadA T.ag72 rfl hb18.cells (Ext.refl _) rfl) ?_
  refine WL.mv rfl rfl ?_
  refine WL.op rfl (OpK.callR rfl T.cf51 rfl (c_impl_ReadsTree_y (Osl.rd ho14) (Osl.rd ho15) (Osl.rd ho16) (Osl.rd ho21) (by first | assumption | omega | (simp only [marks_len, marksB_len, marksR_len]; omega)) (by first | assumption | omega | (simp only [marks_len, marksB_len, marksR_len]; omega)) (by first | rfl | assumption) (by first | assumption | omega | (simp only [marks_len, marksB_len, marksR_len]; omega)) (by first | assumption | omega | (simp only [marks_len, marksB_len, marksR_len]; omega))) (fun w24 hXw24 => ?_))
  have hB := hB.trans hXw24
  have ho5 := ho5.up hXw24
  have ho6 := ho6.up hXw24
  have ho7 := ho7.up hXw24
  have hb9 := hb9.up hXw24
  have ho14 := ho14.up hXw24
  have ho15 := ho15.up hXw24
  have ho16 := ho16.up hXw24
  have hb18 := hb18.up hXw24
  have ho21 := ho21.up hXw24
  have ho23 := ho23.up hXw24
  have ho24 := ho24.up hXw24
  have ho25 := ho25.up hXw24
  have ho26 := ho26.up hXw24
  have ho27 := ho27.up hXw24
  refine WL.mv rfl rfl ?_
  refine WL.pure rfl rfl rfl (PV.extract rfl rfl) ?_
  refine WL.pure rfl rfl rfl (PV.extract rfl rfl) ?_
  refine WL.asg rfl rfl ?_
  refine WL.asg rfl rfl ?_
  refine WL.nilS ?_
  refine CW.seq ?_
  refine CW.reg ?_
  refine WL.pure rfl rfl rfl (PV.loadA T.ag72 rfl hb9.cells (Ext.refl _) rfl) ?_
  refine WL.op rfl (OpK.call rfl T.cf52 rfl (c_impl_LeastTrees_y (Osl.rd ho5) (Osl.rd ho6) (Osl.rd ho7) (by first | assumption | omega | (simp only [marks_len, marksB_len, marksR_len]; omega))) (fun rv9 w25 hR => ?_))
  obtain ⟨hXw25, m31, s232, s333, s434, v28, og28, v29, og29, v30, og30, rfl, hm35, hm36, hm37, ho28, hq28, ho29, hq29, ho30, hq30, hd28_29, hd28_30, hd29_30⟩ := hR
  have hl28 := Lo.up hq28 hB
  have hd5_28 := Dj.lo ho5.ltO hq28
  have hd6_28 := Dj.lo ho6.ltO hq28
  have hd7_28 := Dj.lo ho7.ltO hq28
  have hd9_28 := Dj.lo hb9.ltO hq28
  have hd14_28 := Dj.lo ho14.ltO hq28
  have hd15_28 := Dj.lo ho15.ltO hq28
  have hd16_28 := Dj.lo ho16.ltO hq28
  have hd18_28 := Dj.lo hb18.ltO hq28
  have hd21_28 := Dj.lo ho21.ltO hq28
  have hd23_28 := Dj.lo ho23.ltO hq28
  have hd24_28 := Dj.lo ho24.ltO hq28
  have hd25_28 := Dj.lo ho25.ltO hq28
  have hd26_28 := Dj.lo ho26.ltO hq28
  have hd27_28 := Dj.lo ho27.ltO hq28
  have hl29 := Lo.up hq29 hB
  have hd5_29 := Dj.lo ho5.ltO hq29
  have hd6_29 := Dj.lo ho6.ltO hq29
  have hd7_29 := Dj.lo ho7.ltO hq29
  have hd9_29 := Dj.lo hb9.ltO hq29
  have hd14_29 := Dj.lo ho14.ltO hq29
  have hd15_29 := Dj.lo ho15.ltO hq29
  have hd16_29 := Dj.lo ho16.ltO hq29
  have hd18_29 := Dj.lo hb18.ltO hq29
  have hd21_29 := Dj.lo ho21.ltO hq29
  have hd23_29 := Dj.lo ho23.ltO hq29
  have hd24_29 := Dj.lo ho24.ltO hq29
  have hd25_29 := Dj.lo ho25.ltO hq29
  have hd26_29 := Dj.lo ho26.ltO hq29
  have hd27_29 := Dj.lo ho27.ltO hq29
  have hl30 := Lo.up hq30 hB
  have hd5_30 := Dj.lo ho5.ltO hq30
  have hd6_30 := Dj.lo ho6.ltO hq30
  have hd7_30 := Dj.lo ho7.ltO hq30
  have hd9_30 := Dj.lo hb9.ltO hq30
  have hd14_30 := Dj.lo ho14.ltO hq30
  have hd15_30 := Dj.lo ho15.ltO hq30
  have hd16_30 := Dj.lo ho16.ltO hq30
  have hd18_30 := Dj.lo hb18.ltO hq30
  have hd21_30 := Dj.lo ho21.ltO hq30
  have hd23_30 := Dj.lo ho23.ltO hq30
  have hd24_30 := Dj.lo ho24.ltO hq30
  have hd25_30 := Dj.lo ho25.ltO hq30
  have hd26_30 := Dj.lo ho26.ltO hq30
  have hd27_30 := Dj.lo ho27.ltO hq30
  have hB := hB.trans hXw25
  have ho5 := ho5.up hXw25
  have ho6 := ho6.up hXw25
  have ho7 := ho7.up hXw25
  have hb9 := hb9.up hXw25
  have ho14 := ho14.up hXw25
  have ho15 := ho15.up hXw25
  have ho16 := ho16.up hXw25
  have hb18 := hb18.up hXw25
  have ho21 := ho21.up hXw25
  have ho23 := ho23.up hXw25
  have ho24 := ho24.up hXw25
  have ho25 := ho25.up hXw25
  have ho26 := ho26.up hXw25
  have ho27 := ho27.up hXw25
  refine WL.mv rfl rfl ?_
  refine WL.pure rfl rfl rfl (PV.extract rfl rfl) ?_
  refine WL.pure rfl rfl rfl (PV.extract rfl rfl) ?_
  refine WL.op rfl (OpK.alloc rfl T.zv72 rfl (fun b38 w26 hXw26 hb38 hge38 => ?_))
  have hl38 := Lo.new hB hge38
  have hd5_38 := Dj.new ho5.ltO hge38
  have hd6_38 := Dj.new ho6.ltO hge38
  have hd7_38 := Dj.new ho7.ltO hge38
  have hd9_38 := Dj.new hb9.ltO hge38
  have hd14_38 := Dj.new ho14.ltO hge38
  have hd15_38 := Dj.new ho15.ltO hge38
  have hd16_38 := Dj.new ho16.ltO hge38
  have hd18_38 := Dj.new hb18.ltO hge38
  have hd21_38 := Dj.new ho21.ltO hge38
  have hd23_38 := Dj.new ho23.ltO hge38
  have hd24_38 := Dj.new ho24.ltO hge38
  have hd25_38 := Dj.new ho25.ltO hge38
  have hd26_38 := Dj.new ho26.ltO hge38
  have hd27_38 := Dj.new ho27.ltO hge38
  have hd28_38 := Dj.new ho28.ltO hge38
  have hd29_38 := Dj.new ho29.ltO hge38
  have hd30_38 := Dj.new ho30.ltO hge38
  have hB := hB.trans hXw26
  have ho5 := ho5.up hXw26
  have ho6 := ho6.up hXw26
  have ho7 := ho7.up hXw26
  have hb9 := hb9.up hXw26
  have ho14 := ho14.up hXw26
  have ho15 := ho15.up hXw26
  have ho16 := ho16.up hXw26
  have hb18 := hb18.up hXw26
  have ho21 := ho21.up hXw26
  have ho23 := ho23.up hXw26
  have ho24 := ho24.up hXw26
  have ho25 := ho25.up hXw26
  have ho26 := ho26.up hXw26
  have ho27 := ho27.up hXw26
  have ho28 := ho28.up hXw26
  have ho29 := ho29.up hXw26
  have ho30 := ho30.up hXw26
  refine WL.op rfl (OpK.storeA T.sz72 rfl rfl rfl rfl (by simp [Value.oneCell'] <;> first | done | (repeat' apply And.intro) <;> first | rfl | exact Inn.one1 (by assumption) (by omega) | exact Osl.oneCell (by assumption) | exact Osn.oneCell (by assumption) | exact Rd.oneCell (by assumption) | exact Rd.oneCell (NL.rd (by assumption)) | assumption) hb38 (fun w27 hXw27 hb38 => ?_))
  have hB := hB.updL hXw27 hl38
  have ho5 := ho5.updD hXw27 hd5_38
  have ho6 := ho6.updD hXw27 hd6_38
  have ho7 := ho7.updD hXw27 hd7_38
  have hb9 := hb9.updD hXw27 hd9_38
  have ho14 := ho14.updD hXw27 hd14_38
  have ho15 := ho15.updD hXw27 hd15_38
  have ho16 := ho16.updD hXw27 hd16_38
  have hb18 := hb18.updD hXw27 hd18_38
  have ho21 := ho21.updD hXw27 hd21_38
  have ho23 := ho23.updD hXw27 hd23_38
  have ho24 := ho24.updD hXw27 hd24_38
  have ho25 := ho25.updD hXw27 hd25_38
  have ho26 := ho26.updD hXw27 hd26_38
  have ho27 := ho27.updD hXw27 hd27_38
  have ho28 := ho28.updD hXw27 hd28_38
  have ho29 := ho29.updD hXw27 hd29_38
  have ho30 := ho30.updD hXw27 hd30_38
  refine WL.asg rfl rfl ?_
  refine WL.nilS ?_
  refine CW.seq ?_
  refine CW.reg ?_
  refine WL.pure rfl rfl rfl (PV.loadA T.ag72 rfl hb38.cells (Ext.refl _) rfl) ?_
  refine WL.mv rfl rfl ?_
  refine WL.op rfl (OpK.callR rfl T.cf51 rfl (c_impl_ReadsTree_y (Osl.rd ho28) (Osl.rd ho29) (Osl.rd ho30) (Osl.rd ho21) (by first | assumption | omega | (simp only [marks_len, marksB_len, marksR_len]; omega)) (by first | assumption | omega | (simp only [marks_len, marksB_len, marksR_len]; omega)) (by first | rfl | assumption) (by first | assumption | omega | (simp only [marks_len, marksB_len, marksR_len]; omega)) (by first | assumption | omega | (simp only [marks_len, marksB_len, marksR_len]; omega))) (fun w28 hXw28 => ?_))
  have hB := hB.trans hXw28
  have ho5 := ho5.up hXw28
  have ho6 := ho6.up hXw28
  have ho7 := ho7.up hXw28
  have hb9 := hb9.up hXw28
  have ho14 := ho14.up hXw28
  have ho15 := ho15.up hXw28
  have ho16 := ho16.up hXw28
  have hb18 := hb18.up hXw28
  have ho21 := ho21.up hXw28
  have ho23 := ho23.up hXw28
  have ho24 := ho24.up hXw28
  have ho25 := ho25.up hXw28
  have ho26 := ho26.up hXw28
  have ho27 := ho27.up hXw28
  have ho28 := ho28.up hXw28
  have ho29 := ho29.up hXw28
  have ho30 := ho30.up hXw28
  have hb38 := hb38.up hXw28
  refine WL.mv rfl rfl ?_
  refine WL.pure rfl rfl rfl (PV.extract rfl rfl) ?_
  refine WL.pure rfl rfl rfl (PV.extract rfl rfl) ?_
  refine WL.asg rfl rfl ?_
  refine WL.asg rfl rfl ?_
  refine WL.nilS ?_
  refine CW.seq ?_
  refine CW.reg ?_
  refine WL.pure rfl rfl rfl (PV.loadA T.ag72 rfl hb9.cells (Ext.refl _) rfl) ?_
  refine WL.op rfl (OpK.call rfl T.cf53 rfl (c_impl_OtherTrees_y (Osl.rd ho5) (Osl.rd ho6) (Osl.rd ho7) (by first | assumption | omega | (simp only [marks_len, marksB_len, marksR_len]; omega))) (fun rv10 w29 hR => ?_))
  obtain ⟨hXw29, v39, og39, v40, og40, v41, og41, rfl, ho39, hq39, ho40, hq40, ho41, hq41, hd39_40, hd39_41, hd40_41⟩ := hR
  have hl39 := Lo.up hq39 hB
  have hd5_39 := Dj.lo ho5.ltO hq39
  have hd6_39 := Dj.lo ho6.ltO hq39
  have hd7_39 := Dj.lo ho7.ltO hq39
  have hd9_39 := Dj.lo hb9.ltO hq39
  have hd14_39 := Dj.lo ho14.ltO hq39
  have hd15_39 := Dj.lo ho15.ltO hq39
  have hd16_39 := Dj.lo ho16.ltO hq39
  have hd18_39 := Dj.lo hb18.ltO hq39
  have hd21_39 := Dj.lo ho21.ltO hq39
  have hd23_39 := Dj.lo ho23.ltO hq39
  have hd24_39 := Dj.lo ho24.ltO hq39
  have hd25_39 := Dj.lo ho25.ltO hq39
  have hd26_39 := Dj.lo ho26.ltO hq39
  have hd27_39 := Dj.lo ho27.ltO hq39
  have hd28_39 := Dj.lo ho28.ltO hq39
  have hd29_39 := Dj.lo ho29.ltO hq39
  have hd30_39 := Dj.lo ho30.ltO hq39
  have hd38_39 := Dj.lo hb38.ltO hq39
  have hl40 := Lo.up hq40 hB
  have hd5_40 := Dj.lo ho5.ltO hq40
  have hd6_40 := Dj.lo ho6.ltO hq40
  have hd7_40 := Dj.lo ho7.ltO hq40
  have hd9_40 := Dj.lo hb9.ltO hq40
  have hd14_40 := Dj.lo ho14.ltO hq40
  have hd15_40 := Dj.lo ho15.ltO hq40
  have hd16_40 := Dj.lo ho16.ltO hq40
  have hd18_40 := Dj.lo hb18.ltO hq40
  have hd21_40 := Dj.lo ho21.ltO hq40
  have hd23_40 := Dj.lo ho23.ltO hq40
  have hd24_40 := Dj.lo ho24.ltO hq40
  have hd25_40 := Dj.lo ho25.ltO hq40
  have hd26_40 := Dj.lo ho26.ltO hq40
  have hd27_40 := Dj.lo ho27.ltO hq40
  have hd28_40 := Dj.lo ho28.ltO hq40
  have hd29_40 := Dj.lo ho29.ltO hq40
  have hd30_40 := Dj.lo ho30.ltO hq40
  have hd38_40 := Dj.lo hb38.ltO hq40
  have hl41 := Lo.up hq41 hB
  have hd5_41 := Dj.lo ho5.ltO hq41
  have hd6_41 := Dj.lo ho6.ltO hq41
  have hd7_41 := Dj.lo ho7.ltO hq41
  have hd9_41 := Dj.lo hb9.ltO hq41
  have hd14_41 := Dj.lo ho14.ltO hq41
  have hd15_41 := Dj.lo ho15.ltO hq41
  have hd16_41 := Dj.lo ho16.ltO hq41
  have hd18_41 := Dj.lo hb18.ltO hq41
  have hd21_41 := Dj.lo ho21.ltO hq41
  have hd23_41 := Dj.lo ho23.ltO hq41
  have hd24_41 := Dj.lo ho24.ltO hq41
  have hd25_41 := Dj.lo ho25.ltO hq41
  have hd26_41 := Dj.lo ho26.ltO hq41
  have hd27_41 := Dj.lo ho27.ltO hq41
  have hd28_41 := Dj.lo ho28.ltO hq41
  have hd29_41 := Dj.lo ho29.ltO hq41
  have hd30_41 := Dj.lo ho30.ltO hq41
  have hd38_41 := Dj.lo hb38.ltO hq41
  have hB := hB.trans hXw29
  have ho5 := ho5.up hXw29
  have ho6 := ho6.up hXw29
  have ho7 := ho7.up hXw29
  have hb9 := hb9.up hXw29
  have ho14 := ho14.up hXw29
  have ho15 := ho15.up hXw29
  have ho16 := ho16.up hXw29
  have hb18 := hb18.up hXw29
  have ho21 := ho21.up hXw29
  have ho23 := ho23.up hXw29
  have ho24 := ho24.up hXw29
  have ho25 := ho25.up hXw29
  have ho26 := ho26.up hXw29
  have ho27 := ho27.up hXw29
  have ho28 := ho28.up hXw29
  have ho29 := ho29.up hXw29
  have ho30 := ho30.up hXw29
  have hb38 := hb38.up hXw29
  refine WL.mv rfl rfl ?_
  refine WL.pure rfl rfl rfl (PV.extract rfl rfl) ?_
  refine WL.pure rfl rfl rfl (PV.extract rfl rfl) ?_
  refine WL.op rfl (OpK.alloc rfl T.zv72 rfl (fun b42 w30 hXw30 hb42 hge42 => ?_))
  have hl42 := Lo.new hB hge42
  have hd5_42 := Dj.new ho5.ltO hge42
  have hd6_42 := Dj.new ho6.ltO hge42
  have hd7_42 := Dj.new ho7.ltO hge42
  have hd9_42 := Dj.new hb9.ltO hge42
  have hd14_42 := Dj.new ho14.ltO hge42
  have hd15_42 := Dj.new ho15.ltO hge42
  have hd16_42 := Dj.new ho16.ltO hge42
  have hd18_42 := Dj.new hb18.ltO hge42
  have hd21_42 := Dj.new ho21.ltO hge42
  have hd23_42 := Dj.new ho23.ltO hge42
  have hd24_42 := Dj.new ho24.ltO hge42
  have hd25_42 := Dj.new ho25.ltO hge42
  have hd26_42 := Dj.new ho26.ltO hge42
  have hd27_42 := Dj.new ho27.ltO hge42
  have hd28_42 := Dj.new ho28.ltO hge42
  have hd29_42 := Dj.new ho29.ltO hge42
  have hd30_42 := Dj.new ho30.ltO hge42
  have hd38_42 := Dj.new hb38.ltO hge42
  have hd39_42 := Dj.new ho39.ltO hge42
  have hd40_42 := Dj.new ho40.ltO hge42
  have hd41_42 := Dj.new ho41.ltO hge42
  have hB := hB.trans hXw30
  have ho5 := ho5.up hXw30
  have ho6 := ho6.up hXw30
  have ho7 := ho7.up hXw30
  have hb9 := hb9.up hXw30
  have ho14 := ho14.up hXw30
  have ho15 := ho15.up hXw30
  have ho16 := ho16.up hXw30
  have hb18 := hb18.up hXw30
  have ho21 := ho21.up hXw30
  have ho23 := ho23.up hXw30
  have ho24 := ho24.up hXw30
  have ho25 := ho25.up hXw30
  have ho26 := ho26.up hXw30
  have ho27 := ho27.up hXw30
  have ho28 := ho28.up hXw30
  have ho29 := ho29.up hXw30
  have ho30 := ho30.up hXw30
  have hb38 := hb38.up hXw30
  have ho39 := ho39.up hXw30
  have ho40 := ho40.up hXw30
  have ho41 := ho41.up hXw30
  refine WL.op rfl (OpK.storeA T.sz72 rfl rfl rfl rfl (by simp [Value.oneCell'] <;> first | done | (repeat' apply And.intro) <;> first | rfl | exact Inn.one1 (by assumption) (by omega) | exact Osl.oneCell (by assumption) | exact Osn.oneCell (by assumption) | exact Rd.oneCell (by assumption) | exact Rd.oneCell (NL.rd (by assumption)) | assumption) hb42 (fun w31 hXw31 hb42 => ?_))
  have hB := hB.updL hXw31 hl42
  have ho5 := ho5.updD hXw31 hd5_42
  have ho6 := ho6.updD hXw31 hd6_42
  have ho7 := ho7.updD hXw31 hd7_42
  have hb9 := hb9.updD hXw31 hd9_42
  have ho14 := ho14.updD hXw31 hd14_42
  have ho15 := ho15.updD hXw31 hd15_42
  have ho16 := ho16.updD hXw31 hd16_42
  have hb18 := hb18.updD hXw31 hd18_42
  have ho21 := ho21.updD hXw31 hd21_42
  have ho23 := ho23.updD hXw31 hd23_42
  have ho24 := ho24.updD hXw31 hd24_42
  have ho25 := ho25.updD hXw31 hd25_42
  have ho26 := ho26.updD hXw31 hd26_42
  have ho27 := ho27.updD hXw31 hd27_42
  have ho28 := ho28.updD hXw31 hd28_42
  have ho29 := ho29.updD hXw31 hd29_42
  have ho30 := ho30.updD hXw31 hd30_42
  have hb38 := hb38.updD hXw31 hd38_42
  have ho39 := ho39.updD hXw31 hd39_42
  have ho40 := ho40.updD hXw31 hd40_42
  have ho41 := ho41.updD hXw31 hd41_42
  refine WL.asg rfl rfl ?_
  refine WL.nilS ?_
  refine CW.seq ?_
  refine CW.reg ?_
  refine WL.pure rfl rfl rfl (PV.loadA T.ag72 rfl hb42.cells (Ext.refl _) rfl) ?_
  refine WL.mv rfl rfl ?_
  refine WL.op rfl (OpK.callR rfl T.cf51 rfl (c_impl_ReadsTree_y (Osl.rd ho39) (Osl.rd ho40) (Osl.rd ho41) (Osl.rd ho21) (by first | assumption | omega | (simp only [marks_len, marksB_len, marksR_len]; omega)) (by first | assumption | omega | (simp only [marks_len, marksB_len, marksR_len]; omega)) (by first | rfl | assumption) (by first | assumption | omega | (simp only [marks_len, marksB_len, marksR_len]; omega)) (by first | assumption | omega | (simp only [marks_len, marksB_len, marksR_len]; omega))) (fun w32 hXw32 => ?_))
  have hB := hB.trans hXw32
  have ho5 := ho5.up hXw32
  have ho6 := ho6.up hXw32
  have ho7 := ho7.up hXw32
  have hb9 := hb9.up hXw32
  have ho14 := ho14.up hXw32
  have ho15 := ho15.up hXw32
  have ho16 := ho16.up hXw32
  have hb18 := hb18.up hXw32
  have ho21 := ho21.up hXw32
  have ho23 := ho23.up hXw32
  have ho24 := ho24.up hXw32
  have ho25 := ho25.up hXw32
  have ho26 := ho26.up hXw32
  have ho27 := ho27.up hXw32
  have ho28 := ho28.up hXw32
  have ho29 := ho29.up hXw32
  have ho30 := ho30.up hXw32
  have hb38 := hb38.up hXw32
  have ho39 := ho39.up hXw32
  have ho40 := ho40.up hXw32
  have ho41 := ho41.up hXw32
  have hb42 := hb42.up hXw32
  refine WL.mv rfl rfl ?_
  refine WL.pure rfl rfl rfl (PV.extract rfl rfl) ?_
  refine WL.pure rfl rfl rfl (PV.extract rfl rfl) ?_
  refine WL.asg rfl rfl ?_
  refine WL.asg rfl rfl ?_
  refine WL.nilS ?_
  refine CW.seq ?_
  refine CW.reg ?_
  refine WL.pure rfl rfl rfl (PV.loadA T.ag72 rfl hb9.cells (Ext.refl _) rfl) ?_
  refine WL.pure rfl rfl rfl (PV.loadA T.ag72 rfl hb18.cells (Ext.refl _) rfl) ?_
  refine WL.op rfl (OpK.call rfl T.cf54 rfl (c_impl_MeetTrees_y (Osl.rd ho5) (Osl.rd ho6) (Osl.rd ho7) (Osl.rd ho14) (Osl.rd ho15) (Osl.rd ho16) (by first | assumption | omega | (simp only [marks_len, marksB_len, marksR_len]; omega)) (by first | assumption | omega | (simp only [marks_len, marksB_len, marksR_len]; omega)) (by rfl) (by first | assumption | omega | (simp only [marks_len, marksB_len, marksR_len]; omega))) (fun rv11 w33 hR => ?_))
  obtain ⟨hXw33, m46, s247, s348, s449, v43, og43, v44, og44, v45, og45, rfl, hm50, hm51, ho43, hq43, ho44, hq44, ho45, hq45, hd43_44, hd43_45, hd44_45⟩ := hR
  have hl43 := Lo.up hq43 hB
  have hd5_43 := Dj.lo ho5.ltO hq43
  have hd6_43 := Dj.lo ho6.ltO hq43
  have hd7_43 := Dj.lo ho7.ltO hq43
  have hd9_43 := Dj.lo hb9.ltO hq43
  have hd14_43 := Dj.lo ho14.ltO hq43
  have hd15_43 := Dj.lo ho15.ltO hq43
  have hd16_43 := Dj.lo ho16.ltO hq43
  have hd18_43 := Dj.lo hb18.ltO hq43
  have hd21_43 := Dj.lo ho21.ltO hq43
  have hd23_43 := Dj.lo ho23.ltO hq43
  have hd24_43 := Dj.lo ho24.ltO hq43
  have hd25_43 := Dj.lo ho25.ltO hq43
  have hd26_43 := Dj.lo ho26.ltO hq43
  have hd27_43 := Dj.lo ho27.ltO hq43
  have hd28_43 := Dj.lo ho28.ltO hq43
  have hd29_43 := Dj.lo ho29.ltO hq43
  have hd30_43 := Dj.lo ho30.ltO hq43
  have hd38_43 := Dj.lo hb38.ltO hq43
  have hd39_43 := Dj.lo ho39.ltO hq43
  have hd40_43 := Dj.lo ho40.ltO hq43
  have hd41_43 := Dj.lo ho41.ltO hq43
  have hd42_43 := Dj.lo hb42.ltO hq43
  have hl44 := Lo.up hq44 hB
  have hd5_44 := Dj.lo ho5.ltO hq44
  have hd6_44 := Dj.lo ho6.ltO hq44
  have hd7_44 := Dj.lo ho7.ltO hq44
  have hd9_44 := Dj.lo hb9.ltO hq44
  have hd14_44 := Dj.lo ho14.ltO hq44
  have hd15_44 := Dj.lo ho15.ltO hq44
  have hd16_44 := Dj.lo ho16.ltO hq44
  have hd18_44 := Dj.lo hb18.ltO hq44
  have hd21_44 := Dj.lo ho21.ltO hq44
  have hd23_44 := Dj.lo ho23.ltO hq44
  have hd24_44 := Dj.lo ho24.ltO hq44
  have hd25_44 := Dj.lo ho25.ltO hq44
  have hd26_44 := Dj.lo ho26.ltO hq44
  have hd27_44 := Dj.lo ho27.ltO hq44
  have hd28_44 := Dj.lo ho28.ltO hq44
  have hd29_44 := Dj.lo ho29.ltO hq44
  have hd30_44 := Dj.lo ho30.ltO hq44
  have hd38_44 := Dj.lo hb38.ltO hq44
  have hd39_44 := Dj.lo ho39.ltO hq44
  have hd40_44 := Dj.lo ho40.ltO hq44
  have hd41_44 := Dj.lo ho41.ltO hq44
  have hd42_44 := Dj.lo hb42.ltO hq44
  have hl45 := Lo.up hq45 hB
  have hd5_45 := Dj.lo ho5.ltO hq45
  have hd6_45 := Dj.lo ho6.ltO hq45
  have hd7_45 := Dj.lo ho7.ltO hq45
  have hd9_45 := Dj.lo hb9.ltO hq45
  have hd14_45 := Dj.lo ho14.ltO hq45
  have hd15_45 := Dj.lo ho15.ltO hq45
  have hd16_45 := Dj.lo ho16.ltO hq45
  have hd18_45 := Dj.lo hb18.ltO hq45
  have hd21_45 := Dj.lo ho21.ltO hq45
  have hd23_45 := Dj.lo ho23.ltO hq45
  have hd24_45 := Dj.lo ho24.ltO hq45
  have hd25_45 := Dj.lo ho25.ltO hq45
  have hd26_45 := Dj.lo ho26.ltO hq45
  have hd27_45 := Dj.lo ho27.ltO hq45
  have hd28_45 := Dj.lo ho28.ltO hq45
  have hd29_45 := Dj.lo ho29.ltO hq45
  have hd30_45 := Dj.lo ho30.ltO hq45
  have hd38_45 := Dj.lo hb38.ltO hq45
  have hd39_45 := Dj.lo ho39.ltO hq45
  have hd40_45 := Dj.lo ho40.ltO hq45
  have hd41_45 := Dj.lo ho41.ltO hq45
  have hd42_45 := Dj.lo hb42.ltO hq45
  have hB := hB.trans hXw33
  have ho5 := ho5.up hXw33
  have ho6 := ho6.up hXw33
  have ho7 := ho7.up hXw33
  have hb9 := hb9.up hXw33
  have ho14 := ho14.up hXw33
  have ho15 := ho15.up hXw33
  have ho16 := ho16.up hXw33
  have hb18 := hb18.up hXw33
  have ho21 := ho21.up hXw33
  have ho23 := ho23.up hXw33
  have ho24 := ho24.up hXw33
  have ho25 := ho25.up hXw33
  have ho26 := ho26.up hXw33
  have ho27 := ho27.up hXw33
  have ho28 := ho28.up hXw33
  have ho29 := ho29.up hXw33
  have ho30 := ho30.up hXw33
  have hb38 := hb38.up hXw33
  have ho39 := ho39.up hXw33
  have ho40 := ho40.up hXw33
  have ho41 := ho41.up hXw33
  have hb42 := hb42.up hXw33
  refine WL.mv rfl rfl ?_
  refine WL.pure rfl rfl rfl (PV.extract rfl rfl) ?_
  refine WL.pure rfl rfl rfl (PV.extract rfl rfl) ?_
  refine WL.op rfl (OpK.alloc rfl T.zv72 rfl (fun b52 w34 hXw34 hb52 hge52 => ?_))
  have hl52 := Lo.new hB hge52
  have hd5_52 := Dj.new ho5.ltO hge52
  have hd6_52 := Dj.new ho6.ltO hge52
  have hd7_52 := Dj.new ho7.ltO hge52
  have hd9_52 := Dj.new hb9.ltO hge52
  have hd14_52 := Dj.new ho14.ltO hge52
  have hd15_52 := Dj.new ho15.ltO hge52
  have hd16_52 := Dj.new ho16.ltO hge52
  have hd18_52 := Dj.new hb18.ltO hge52
  have hd21_52 := Dj.new ho21.ltO hge52
  have hd23_52 := Dj.new ho23.ltO hge52
  have hd24_52 := Dj.new ho24.ltO hge52
  have hd25_52 := Dj.new ho25.ltO hge52
  have hd26_52 := Dj.new ho26.ltO hge52
  have hd27_52 := Dj.new ho27.ltO hge52
  have hd28_52 := Dj.new ho28.ltO hge52
  have hd29_52 := Dj.new ho29.ltO hge52
  have hd30_52 := Dj.new ho30.ltO hge52
  have hd38_52 := Dj.new hb38.ltO hge52
  have hd39_52 := Dj.new ho39.ltO hge52
  have hd40_52 := Dj.new ho40.ltO hge52
  have hd41_52 := Dj.new ho41.ltO hge52
  have hd42_52 := Dj.new hb42.ltO hge52
  have hd43_52 := Dj.new ho43.ltO hge52
  have hd44_52 := Dj.new ho44.ltO hge52
  have hd45_52 := Dj.new ho45.ltO hge52
  have hB := hB.trans hXw34
  have ho5 := ho5.up hXw34
  have ho6 := ho6.up hXw34
  have ho7 := ho7.up hXw34
  have hb9 := hb9.up hXw34
  have ho14 := ho14.up hXw34
  have ho15 := ho15.up hXw34
  have ho16 := ho16.up hXw34
  have hb18 := hb18.up hXw34
  have ho21 := ho21.up hXw34
  have ho23 := ho23.up hXw34
  have ho24 := ho24.up hXw34
  have ho25 := ho25.up hXw34
  have ho26 := ho26.up hXw34
  have ho27 := ho27.up hXw34
  have ho28 := ho28.up hXw34
  have ho29 := ho29.up hXw34
  have ho30 := ho30.up hXw34
  have hb38 := hb38.up hXw34
  have ho39 := ho39.up hXw34
  have ho40 := ho40.up hXw34
  have ho41 := ho41.up hXw34
  have hb42 := hb42.up hXw34
  have ho43 := ho43.up hXw34
  have ho44 := ho44.up hXw34
  have ho45 := ho45.up hXw34
  refine WL.op rfl (OpK.storeA T.sz72 rfl rfl rfl rfl (by simp [Value.oneCell'] <;> first | done | (repeat' apply And.intro) <;> first | rfl | exact Inn.one1 (by assumption) (by omega) | exact Osl.oneCell (by assumption) | exact Osn.oneCell (by assumption) | exact Rd.oneCell (by assumption) | exact Rd.oneCell (NL.rd (by assumption)) | assumption) hb52 (fun w35 hXw35 hb52 => ?_))
  have hB := hB.updL hXw35 hl52
  have ho5 := ho5.updD hXw35 hd5_52
  have ho6 := ho6.updD hXw35 hd6_52
  have ho7 := ho7.updD hXw35 hd7_52
  have hb9 := hb9.updD hXw35 hd9_52
  have ho14 := ho14.updD hXw35 hd14_52
  have ho15 := ho15.updD hXw35 hd15_52
  have ho16 := ho16.updD hXw35 hd16_52
  have hb18 := hb18.updD hXw35 hd18_52
  have ho21 := ho21.updD hXw35 hd21_52
  have ho23 := ho23.updD hXw35 hd23_52
  have ho24 := ho24.updD hXw35 hd24_52
  have ho25 := ho25.updD hXw35 hd25_52
  have ho26 := ho26.updD hXw35 hd26_52
  have ho27 := ho27.updD hXw35 hd27_52
  have ho28 := ho28.updD hXw35 hd28_52
  have ho29 := ho29.updD hXw35 hd29_52
  have ho30 := ho30.updD hXw35 hd30_52
  have hb38 := hb38.updD hXw35 hd38_52
  have ho39 := ho39.updD hXw35 hd39_52
  have ho40 := ho40.updD hXw35 hd40_52
  have ho41 := ho41.updD hXw35 hd41_52
  have hb42 := hb42.updD hXw35 hd42_52
  have ho43 := ho43.updD hXw35 hd43_52
  have ho44 := ho44.updD hXw35 hd44_52
  have ho45 := ho45.updD hXw35 hd45_52
  refine WL.asg rfl rfl ?_
  refine WL.nilS ?_
  refine CW.seq ?_
  refine CW.reg ?_
  refine WL.pure rfl rfl rfl (PV.loadA T.ag72 rfl hb52.cells (Ext.refl _) rfl) ?_
  refine WL.mv rfl rfl ?_
  refine WL.op rfl (OpK.callR rfl T.cf51 rfl (c_impl_ReadsTree_y (Osl.rd ho43) (Osl.rd ho44) (Osl.rd ho45) (Osl.rd ho21) (by first | assumption | omega | (simp only [marks_len, marksB_len, marksR_len]; omega)) (by first | assumption | omega | (simp only [marks_len, marksB_len, marksR_len]; omega)) (by first | rfl | assumption) (by first | assumption | omega | (simp only [marks_len, marksB_len, marksR_len]; omega)) (by first | assumption | omega | (simp only [marks_len, marksB_len, marksR_len]; omega))) (fun w36 hXw36 => ?_))
  have hB := hB.trans hXw36
  have ho5 := ho5.up hXw36
  have ho6 := ho6.up hXw36
  have ho7 := ho7.up hXw36
  have hb9 := hb9.up hXw36
  have ho14 := ho14.up hXw36
  have ho15 := ho15.up hXw36
  have ho16 := ho16.up hXw36
  have hb18 := hb18.up hXw36
  have ho21 := ho21.up hXw36
  have ho23 := ho23.up hXw36
  have ho24 := ho24.up hXw36
  have ho25 := ho25.up hXw36
  have ho26 := ho26.up hXw36
  have ho27 := ho27.up hXw36
  have ho28 := ho28.up hXw36
  have ho29 := ho29.up hXw36
  have ho30 := ho30.up hXw36
  have hb38 := hb38.up hXw36
  have ho39 := ho39.up hXw36
  have ho40 := ho40.up hXw36
  have ho41 := ho41.up hXw36
  have hb42 := hb42.up hXw36
  have ho43 := ho43.up hXw36
  have ho44 := ho44.up hXw36
  have ho45 := ho45.up hXw36
  have hb52 := hb52.up hXw36
  refine WL.mv rfl rfl ?_
  refine WL.pure rfl rfl rfl (PV.extract rfl rfl) ?_
  refine WL.pure rfl rfl rfl (PV.extract rfl rfl) ?_
  refine WL.asg rfl rfl ?_
  refine WL.asg rfl rfl ?_
  refine WL.nilS ?_
  refine CW.seq ?_
  refine CW.reg ?_
  refine WL.pure rfl rfl rfl (PV.loadA T.ag72 rfl hb38.cells (Ext.refl _) rfl) ?_
  refine WL.op rfl (OpK.call rfl T.cf52 rfl (c_impl_LeastTrees_y (Osl.rd ho28) (Osl.rd ho29) (Osl.rd ho30) (by first | assumption | omega | (simp only [marks_len, marksB_len, marksR_len]; omega))) (fun rv12 w37 hR => ?_))
  obtain ⟨hXw37, m56, s257, s358, s459, v53, og53, v54, og54, v55, og55, rfl, hm60, hm61, hm62, ho53, hq53, ho54, hq54, ho55, hq55, hd53_54, hd53_55, hd54_55⟩ := hR
  have hl53 := Lo.up hq53 hB
  have hd5_53 := Dj.lo ho5.ltO hq53
  have hd6_53 := Dj.lo ho6.ltO hq53
  have hd7_53 := Dj.lo ho7.ltO hq53
  have hd9_53 := Dj.lo hb9.ltO hq53
  have hd14_53 := Dj.lo ho14.ltO hq53
  have hd15_53 := Dj.lo ho15.ltO hq53
  have hd16_53 := Dj.lo ho16.ltO hq53
  have hd18_53 := Dj.lo hb18.ltO hq53
  have hd21_53 := Dj.lo ho21.ltO hq53
  have hd23_53 := Dj.lo ho23.ltO hq53
  have hd24_53 := Dj.lo ho24.ltO hq53
  have hd25_53 := Dj.lo ho25.ltO hq53
  have hd26_53 := Dj.lo ho26.ltO hq53
  have hd27_53 := Dj.lo ho27.ltO hq53
  have hd28_53 := Dj.lo ho28.ltO hq53
  have hd29_53 := Dj.lo ho29.ltO hq53
  have hd30_53 := Dj.lo ho30.ltO hq53
  have hd38_53 := Dj.lo hb38.ltO hq53
  have hd39_53 := Dj.lo ho39.ltO hq53
  have hd40_53 := Dj.lo ho40.ltO hq53
  have hd41_53 := Dj.lo ho41.ltO hq53
  have hd42_53 := Dj.lo hb42.ltO hq53
  have hd43_53 := Dj.lo ho43.ltO hq53
  have hd44_53 := Dj.lo ho44.ltO hq53
  have hd45_53 := Dj.lo ho45.ltO hq53
  have hd52_53 := Dj.lo hb52.ltO hq53
  have hl54 := Lo.up hq54 hB
  have hd5_54 := Dj.lo ho5.ltO hq54
  have hd6_54 := Dj.lo ho6.ltO hq54
  have hd7_54 := Dj.lo ho7.ltO hq54
  have hd9_54 := Dj.lo hb9.ltO hq54
  have hd14_54 := Dj.lo ho14.ltO hq54
  have hd15_54 := Dj.lo ho15.ltO hq54
  have hd16_54 := Dj.lo ho16.ltO hq54
  have hd18_54 := Dj.lo hb18.ltO hq54
  have hd21_54 := Dj.lo ho21.ltO hq54
  have hd23_54 := Dj.lo ho23.ltO hq54
  have hd24_54 := Dj.lo ho24.ltO hq54
  have hd25_54 := Dj.lo ho25.ltO hq54
  have hd26_54 := Dj.lo ho26.ltO hq54
  have hd27_54 := Dj.lo ho27.ltO hq54
  have hd28_54 := Dj.lo ho28.ltO hq54
  have hd29_54 := Dj.lo ho29.ltO hq54
  have hd30_54 := Dj.lo ho30.ltO hq54
  have hd38_54 := Dj.lo hb38.ltO hq54
  have hd39_54 := Dj.lo ho39.ltO hq54
  have hd40_54 := Dj.lo ho40.ltO hq54
  have hd41_54 := Dj.lo ho41.ltO hq54
  have hd42_54 := Dj.lo hb42.ltO hq54
  have hd43_54 := Dj.lo ho43.ltO hq54
  have hd44_54 := Dj.lo ho44.ltO hq54
  have hd45_54 := Dj.lo ho45.ltO hq54
  have hd52_54 := Dj.lo hb52.ltO hq54
  have hl55 := Lo.up hq55 hB
  have hd5_55 := Dj.lo ho5.ltO hq55
  have hd6_55 := Dj.lo ho6.ltO hq55
  have hd7_55 := Dj.lo ho7.ltO hq55
  have hd9_55 := Dj.lo hb9.ltO hq55
  have hd14_55 := Dj.lo ho14.ltO hq55
  have hd15_55 := Dj.lo ho15.ltO hq55
  have hd16_55 := Dj.lo ho16.ltO hq55
  have hd18_55 := Dj.lo hb18.ltO hq55
  have hd21_55 := Dj.lo ho21.ltO hq55
  have hd23_55 := Dj.lo ho23.ltO hq55
  have hd24_55 := Dj.lo ho24.ltO hq55
  have hd25_55 := Dj.lo ho25.ltO hq55
  have hd26_55 := Dj.lo ho26.ltO hq55
  have hd27_55 := Dj.lo ho27.ltO hq55
  have hd28_55 := Dj.lo ho28.ltO hq55
  have hd29_55 := Dj.lo ho29.ltO hq55
  have hd30_55 := Dj.lo ho30.ltO hq55
  have hd38_55 := Dj.lo hb38.ltO hq55
  have hd39_55 := Dj.lo ho39.ltO hq55
  have hd40_55 := Dj.lo ho40.ltO hq55
  have hd41_55 := Dj.lo ho41.ltO hq55
  have hd42_55 := Dj.lo hb42.ltO hq55
  have hd43_55 := Dj.lo ho43.ltO hq55
  have hd44_55 := Dj.lo ho44.ltO hq55
  have hd45_55 := Dj.lo ho45.ltO hq55
  have hd52_55 := Dj.lo hb52.ltO hq55
  have hB := hB.trans hXw37
  have ho5 := ho5.up hXw37
  have ho6 := ho6.up hXw37
  have ho7 := ho7.up hXw37
  have hb9 := hb9.up hXw37
  have ho14 := ho14.up hXw37
  have ho15 := ho15.up hXw37
  have ho16 := ho16.up hXw37
  have hb18 := hb18.up hXw37
  have ho21 := ho21.up hXw37
  have ho23 := ho23.up hXw37
  have ho24 := ho24.up hXw37
  have ho25 := ho25.up hXw37
  have ho26 := ho26.up hXw37
  have ho27 := ho27.up hXw37
  have ho28 := ho28.up hXw37
  have ho29 := ho29.up hXw37
  have ho30 := ho30.up hXw37
  have hb38 := hb38.up hXw37
  have ho39 := ho39.up hXw37
  have ho40 := ho40.up hXw37
  have ho41 := ho41.up hXw37
  have hb42 := hb42.up hXw37
  have ho43 := ho43.up hXw37
  have ho44 := ho44.up hXw37
  have ho45 := ho45.up hXw37
  have hb52 := hb52.up hXw37
  refine WL.mv rfl rfl ?_
  refine WL.pure rfl rfl rfl (PV.extract rfl rfl) ?_
  refine WL.pure rfl rfl rfl (PV.extract rfl rfl) ?_
  refine WL.op rfl (OpK.alloc rfl T.zv72 rfl (fun b63 w38 hXw38 hb63 hge63 => ?_))
  have hl63 := Lo.new hB hge63
  have hd5_63 := Dj.new ho5.ltO hge63
  have hd6_63 := Dj.new ho6.ltO hge63
  have hd7_63 := Dj.new ho7.ltO hge63
  have hd9_63 := Dj.new hb9.ltO hge63
  have hd14_63 := Dj.new ho14.ltO hge63
  have hd15_63 := Dj.new ho15.ltO hge63
  have hd16_63 := Dj.new ho16.ltO hge63
  have hd18_63 := Dj.new hb18.ltO hge63
  have hd21_63 := Dj.new ho21.ltO hge63
  have hd23_63 := Dj.new ho23.ltO hge63
  have hd24_63 := Dj.new ho24.ltO hge63
  have hd25_63 := Dj.new ho25.ltO hge63
  have hd26_63 := Dj.new ho26.ltO hge63
  have hd27_63 := Dj.new ho27.ltO hge63
  have hd28_63 := Dj.new ho28.ltO hge63
  have hd29_63 := Dj.new ho29.ltO hge63
  have hd30_63 := Dj.new ho30.ltO hge63
  have hd38_63 := Dj.new hb38.ltO hge63
  have hd39_63 := Dj.new ho39.ltO hge63
  have hd40_63 := Dj.new ho40.ltO hge63
  have hd41_63 := Dj.new ho41.ltO hge63
  have hd42_63 := Dj.new hb42.ltO hge63
  have hd43_63 := Dj.new ho43.ltO hge63
  have hd44_63 := Dj.new ho44.ltO hge63
  have hd45_63 := Dj.new ho45.ltO hge63
  have hd52_63 := Dj.new hb52.ltO hge63
  have hd53_63 := Dj.new ho53.ltO hge63
  have hd54_63 := Dj.new ho54.ltO hge63
  have hd55_63 := Dj.new ho55.ltO hge63
  have hB := hB.trans hXw38
  have ho5 := ho5.up hXw38
  have ho6 := ho6.up hXw38
  have ho7 := ho7.up hXw38
  have hb9 := hb9.up hXw38
  have ho14 := ho14.up hXw38
  have ho15 := ho15.up hXw38
  have ho16 := ho16.up hXw38
  have hb18 := hb18.up hXw38
  have ho21 := ho21.up hXw38
  have ho23 := ho23.up hXw38
  have ho24 := ho24.up hXw38
  have ho25 := ho25.up hXw38
  have ho26 := ho26.up hXw38
  have ho27 := ho27.up hXw38
  have ho28 := ho28.up hXw38
  have ho29 := ho29.up hXw38
  have ho30 := ho30.up hXw38
  have hb38 := hb38.up hXw38
  have ho39 := ho39.up hXw38
  have ho40 := ho40.up hXw38
  have ho41 := ho41.up hXw38
  have hb42 := hb42.up hXw38
  have ho43 := ho43.up hXw38
  have ho44 := ho44.up hXw38
  have ho45 := ho45.up hXw38
  have hb52 := hb52.up hXw38
  have ho53 := ho53.up hXw38
  have ho54 := ho54.up hXw38
  have ho55 := ho55.up hXw38
  refine WL.op rfl (OpK.storeA T.sz72 rfl rfl rfl rfl (by simp [Value.oneCell'] <;> first | done | (repeat' apply And.intro) <;> first | rfl | exact Inn.one1 (by assumption) (by omega) | exact Osl.oneCell (by assumption) | exact Osn.oneCell (by assumption) | exact Rd.oneCell (by assumption) | exact Rd.oneCell (NL.rd (by assumption)) | assumption) hb63 (fun w39 hXw39 hb63 => ?_))
  have hB := hB.updL hXw39 hl63
  have ho5 := ho5.updD hXw39 hd5_63
  have ho6 := ho6.updD hXw39 hd6_63
  have ho7 := ho7.updD hXw39 hd7_63
  have hb9 := hb9.updD hXw39 hd9_63
  have ho14 := ho14.updD hXw39 hd14_63
  have ho15 := ho15.updD hXw39 hd15_63
  have ho16 := ho16.updD hXw39 hd16_63
  have hb18 := hb18.updD hXw39 hd18_63
  have ho21 := ho21.updD hXw39 hd21_63
  have ho23 := ho23.updD hXw39 hd23_63
  have ho24 := ho24.updD hXw39 hd24_63
  have ho25 := ho25.updD hXw39 hd25_63
  have ho26 := ho26.updD hXw39 hd26_63
  have ho27 := ho27.updD hXw39 hd27_63
  have ho28 := ho28.updD hXw39 hd28_63
  have ho29 := ho29.updD hXw39 hd29_63
  have ho30 := ho30.updD hXw39 hd30_63
  have hb38 := hb38.updD hXw39 hd38_63
  have ho39 := ho39.updD hXw39 hd39_63
  have ho40 := ho40.updD hXw39 hd40_63
  have ho41 := ho41.updD hXw39 hd41_63
  have hb42 := hb42.updD hXw39 hd42_63
  have ho43 := ho43.updD hXw39 hd43_63
  have ho44 := ho44.updD hXw39 hd44_63
  have ho45 := ho45.updD hXw39 hd45_63
  have hb52 := hb52.updD hXw39 hd52_63
  have ho53 := ho53.updD hXw39 hd53_63
  have ho54 := ho54.updD hXw39 hd54_63
  have ho55 := ho55.updD hXw39 hd55_63
  refine WL.asg rfl rfl ?_
  refine WL.nilS ?_
  refine CW.seq ?_
  refine CW.cut (σk := [(1, _), (5, _), (6, _), (9, _), (23, _), (27, _), (31, _)]) (fun ρ wz => ∃ (_ : Unit), ρ = [(322, .bool false)] ∧ Ext w39 wz ∧ True) ⟨rfl, rfl, rfl, rfl, rfl, rfl, rfl, trivial⟩ ?_ ?_
  · skip
    have hB0 := Ext.refl w39
    have hBc := Ext.refl w39
    refine CW.reg ?_
    have hTw := sm_twice tv hen hm36 hm61; have hSm : m56 = m31 ∧ (1 + at8 ys (Int.toNat 40) 3) = (1 + at8 ys (Int.toNat 40) 3) ∧ s257 = s232 ∧ s358 = s333 ∧ s459 = s434 := ⟨hTw.1, rfl, hTw.2.1, hTw.2.2.1, hTw.2.2.2⟩; have hzr := sm_read tv hm36 hT; have hwr := not_get (en := x44) (i := (stT (1 + at8 ys (Int.toNat 41) 4) x22 x33 T20).toNat) (by omega); have hbr := hm51 T20 hT
    refine WL.mv rfl rfl ?_
    refine WL.pure rfl rfl rfl (PV.not rfl) ?_
    refine WL.mv rfl rfl ?_
    refine WL.pureG rfl rfl rfl rfl rfl (PV.move rfl) ?_
    refine WL.pureG rfl rfl rfl rfl rfl (PV.not rfl) ?_
    refine WL.pure rfl rfl rfl (PV.pickF rfl rfl) ?_
    refine WL.mv rfl rfl ?_
    refine WL.pureG rfl rfl rfl rfl rfl (PV.move rfl) ?_
    refine WL.pureG rfl rfl rfl rfl rfl (PV.not rfl) ?_
    refine WL.pure rfl rfl rfl (PV.pickF rfl rfl) ?_
    refine WL.mv rfl rfl ?_
    refine WL.pureG rfl rfl rfl rfl rfl (PV.move rfl) ?_
    refine WL.pureG rfl rfl rfl rfl rfl (PV.not rfl) ?_
    refine WL.pure rfl rfl rfl (PV.pickF rfl rfl) ?_
    refine WL.mv rfl rfl ?_
    refine WL.pureG rfl rfl rfl rfl rfl (PV.move rfl) ?_
    refine WL.pureG rfl rfl rfl rfl rfl (PV.not rfl) ?_
    refine WL.pure rfl rfl rfl (PV.pickF rfl rfl) ?_
    refine WL.mv rfl rfl ?_
    refine WL.pureG rfl rfl rfl rfl rfl (PV.move rfl) ?_
    refine WL.pureG rfl rfl rfl rfl rfl (PV.not rfl) ?_
    refine WL.pure rfl rfl rfl (PV.pickF rfl rfl) ?_
    refine WL.mv rfl rfl ?_
    refine WL.pureG rfl rfl rfl rfl rfl (PV.move rfl) ?_
    refine WL.pureG rfl rfl rfl rfl rfl (PV.not rfl) ?_
    refine WL.pure rfl rfl rfl (PV.pickF rfl rfl) ?_
    refine WL.mv rfl rfl ?_
    refine WL.pureG rfl rfl rfl rfl rfl (PV.move rfl) ?_
    refine WL.pureG rfl rfl rfl rfl rfl (PV.not rfl) ?_
    refine WL.pure rfl rfl rfl (PV.pickF rfl rfl) ?_
    refine WL.mv rfl rfl ?_
    refine WL.pureG rfl rfl rfl rfl rfl (PV.move rfl) ?_
    refine WL.pureG rfl rfl rfl rfl rfl (PV.not rfl) ?_
    refine WL.pure rfl rfl rfl (PV.pickF rfl rfl) ?_
    refine WL.mv rfl rfl ?_
    refine WL.pureG rfl rfl rfl rfl rfl (PV.move rfl) ?_
    refine WL.pureG rfl rfl rfl rfl rfl (PV.not rfl) ?_
    refine WL.pure rfl rfl rfl (PV.pickF rfl rfl) ?_
    refine WL.mv rfl rfl ?_
    refine WL.pureG rfl rfl rfl rfl rfl (PV.move rfl) ?_
    refine WL.pureG rfl rfl rfl rfl rfl (PV.lss rfl rfl) ?_
    refine WL.pure rfl rfl rfl (PV.pickF rfl rfl) ?_
    refine WL.mv rfl rfl ?_
    refine WL.split (t := 272) rfl (fun hc6 => ?_) (fun hc6 => ?_)
    · skip
      try simp only [nq] at hc6
      exfalso; first | omega | (revert hc6; simp; done) | (revert hc6; simp; omega)
    try simp only [nq] at hc6
    refine WL.pureG rfl rfl rfl rfl rfl (PV.move rfl) ?_
    refine WL.pureG rfl rfl rfl rfl rfl (PV.fieldAddr T.fl72_0 rfl hb9.cells) ?_
    refine WL.pureG rfl rfl rfl rfl rfl (PV.load1 T.na2 rfl hb9.cells (Ext.refl _) rfl) ?_
    refine WL.pureG rfl rfl rfl rfl rfl (PV.geq rfl rfl) ?_
    refine WL.pure rfl rfl rfl (PV.pickF rfl rfl) ?_
    refine WL.mv rfl rfl ?_
    refine WL.split (t := 278) rfl (fun hc7 => ?_) (fun hc7 => ?_)
    · skip
      try simp only [nq] at hc7
      exfalso; first | omega | (revert hc7; simp; done) | (revert hc7; simp; omega)
    try simp only [nq] at hc7
    refine WL.pureG rfl rfl rfl rfl rfl (PV.fieldAddr T.fl72_4 rfl hb9.cells) ?_
    refine WL.pureG rfl rfl rfl rfl rfl (PV.load1 T.na62 rfl hb9.cells (Ext.refl _) rfl) ?_
    refine WL.pureG rfl rfl rfl rfl rfl (PV.move rfl) ?_
    first
      | refine WL.atO (x := .tmp 280) (y := .tmp 281) (f := VB) (false) rfl rfl ho7 (by first | omega | (simp only [List.length_set]; omega) | (simp only [List.length_append, List.length_take, List.length_replicate, List.length_drop]; omega)) (fun p1 hpp1 hcp1 => ?_)
      | refine WL.atOZ (x := .tmp 280) (y := .tmp 281) (f := VB) (false) rfl rfl ho7 (by first | omega | (simp only [List.length_set]; omega) | (simp only [List.length_append, List.length_take, List.length_replicate, List.length_drop]; omega)) (fun p1 hpp1 hzp1 hcp1 => ?_)
    refine WL.pureG rfl rfl rfl rfl rfl ((by first | exact PV.indexAddr hpp1 rfl rfl T.sl62 | exact PV.indexAddr hpp1 rfl (by rw [← hzp1]; rfl) T.sl62)) ?_
    refine WL.pureG rfl rfl rfl rfl rfl ((by first | exact PV.load0 T.na4 rfl (by first | exact Cells.up (by assumption) hB | exact Bx.cells (by assumption) | assumption) (Ext.refl _) rfl | exact PV.load1 T.na4 rfl (by first | exact Cells.up (by assumption) hB | exact Bx.cells (by assumption) | assumption) (Ext.refl _) rfl)) ?_
    refine WL.pureG rfl rfl rfl rfl rfl (PV.move rfl) ?_
    refine WL.pureG rfl rfl rfl rfl rfl (PV.neqB T.bl4 rfl rfl) ?_
    refine WL.pure rfl rfl rfl (PV.pickF rfl rfl) ?_
    refine WL.mv rfl rfl ?_
    refine WL.split (t := 287) rfl (fun hc8 => ?_) (fun hc8 => ?_)
    · skip
      try simp only [nq] at hc8
      exfalso; first | omega | (revert hc8; simp; done) | (revert hc8; simp; omega)
    try simp only [nq] at hc8
    refine WL.pureG rfl rfl rfl rfl rfl (PV.move rfl) ?_
    refine WL.pureG rfl rfl rfl rfl rfl (PV.move rfl) ?_
    refine WL.pureG rfl rfl rfl rfl rfl (PV.neqB T.bl4 rfl rfl) ?_
    refine WL.pure rfl rfl rfl (PV.pickF rfl rfl) ?_
    refine WL.mv rfl rfl ?_
    refine WL.split (t := 292) rfl (fun hc9 => ?_) (fun hc9 => ?_)
    · skip
      try simp only [nq] at hc9
      exfalso; revert hc9; rw [hzr]; first | (simp; done) | (rw [(by assumption : x44.getD (stT (1 + at8 ys (Int.toNat 41) 4) x22 x33 T20).toNat false = true)]; simp; done) | (rw [(by assumption : x44.getD (stT (1 + at8 ys (Int.toNat 41) 4) x22 x33 T20).toNat false = false)]; simp; done)
    try simp only [nq] at hc9
    refine WL.pureG rfl rfl rfl rfl rfl (PV.move rfl) ?_
    refine WL.pureG rfl rfl rfl rfl rfl (PV.move rfl) ?_
    refine WL.pureG rfl rfl rfl rfl rfl (PV.eqlB T.bl4 rfl rfl) ?_
    refine WL.pure rfl rfl rfl (PV.pickF rfl rfl) ?_
    refine WL.mv rfl rfl ?_
    refine WL.split (t := 297) rfl (fun hc10 => ?_) (fun hc10 => ?_)
    · skip
      try simp only [nq] at hc10
      exfalso; revert hc10; rw [hwr]; first | (simp; done) | (rw [(by assumption : x44.getD (stT (1 + at8 ys (Int.toNat 41) 4) x22 x33 T20).toNat false = true)]; simp; done) | (rw [(by assumption : x44.getD (stT (1 + at8 ys (Int.toNat 41) 4) x22 x33 T20).toNat false = false)]; simp; done)
    try simp only [nq] at hc10
    refine WL.pureG rfl rfl rfl rfl rfl (PV.move rfl) ?_
    refine WL.pureG rfl rfl rfl rfl rfl (PV.move rfl) ?_
    refine WL.pureG rfl rfl rfl rfl rfl (PV.move rfl) ?_
    refine WL.split (t := 300) rfl (fun hc11 => ?_) (fun hc11 => ?_)
    rotate_left
    · skip
      try simp only [nq] at hc11
      refine WL.skip rfl rfl rfl rfl rfl ?_
      refine WL.pureG rfl rfl rfl rfl rfl (PV.pickF rfl rfl) ?_
      refine WL.pureG rfl rfl rfl rfl rfl (PV.neqB T.bl4 rfl rfl) ?_
      refine WL.pure rfl rfl rfl (PV.pickF rfl rfl) ?_
      refine WL.mv rfl rfl ?_
      refine WL.split (t := 305) rfl (fun hc12 => ?_) (fun hc12 => ?_)
      · skip
        try simp only [nq] at hc12
        exfalso; revert hc12; rw [hbr]; first | (simp; done) | (rw [(by assumption : x44.getD (stT (1 + at8 ys (Int.toNat 41) 4) x22 x33 T20).toNat false = true)]; simp; done) | (rw [(by assumption : x44.getD (stT (1 + at8 ys (Int.toNat 41) 4) x22 x33 T20).toNat false = false)]; simp; done)
      try simp only [nq] at hc12
      refine WL.pureG rfl rfl rfl rfl rfl (PV.fieldAddr T.fl72_0 rfl hb38.cells) ?_
      refine WL.pureG rfl rfl rfl rfl rfl (PV.load1 T.na2 rfl hb38.cells (Ext.refl _) rfl) ?_
      refine WL.pureG rfl rfl rfl rfl rfl (PV.fieldAddr T.fl72_0 rfl hb9.cells) ?_
      refine WL.pureG rfl rfl rfl rfl rfl (PV.load1 T.na2 rfl hb9.cells (Ext.refl _) rfl) ?_
      refine WL.pureG rfl rfl rfl rfl rfl (PV.gtr rfl rfl) ?_
      refine WL.pure rfl rfl rfl (PV.pickF rfl rfl) ?_
      refine WL.mv rfl rfl ?_
      refine WL.split (t := 312) rfl (fun hc13 => ?_) (fun hc13 => ?_)
      · skip
        try simp only [nq] at hc13
        exfalso; first | omega | (revert hc13; simp; done) | (revert hc13; simp; omega)
      try simp only [nq] at hc13
      refine WL.pureG rfl rfl rfl rfl rfl (PV.loadA T.ag72 rfl hb63.cells (Ext.refl _) rfl) ?_
      refine WL.pureG rfl rfl rfl rfl rfl (PV.loadA T.ag72 rfl hb38.cells (Ext.refl _) rfl) ?_
      refine WL.opG rfl rfl rfl (OpK.callR rfl T.cf55 rfl (c_impl_SameTrees_y (Osl.rd ho53) (Osl.rd ho54) (Osl.rd ho55) (Osl.rd ho28) (Osl.rd ho29) (Osl.rd ho30) (by first | assumption | omega | (simp only [marks_len, marksB_len, marksR_len]; omega))) (fun w40 hXw40 => ?_))
      have hB := hB.trans hXw40
      have hBc := (by first | exact hBc.trans hXw40 | exact hB0.trans hXw40)
      have ho5 := ho5.up hXw40
      have ho6 := ho6.up hXw40
      have ho7 := ho7.up hXw40
      have hb9 := hb9.up hXw40
      have ho14 := ho14.up hXw40
      have ho15 := ho15.up hXw40
      have ho16 := ho16.up hXw40
      have hb18 := hb18.up hXw40
      have ho21 := ho21.up hXw40
      have ho23 := ho23.up hXw40
      have ho24 := ho24.up hXw40
      have ho25 := ho25.up hXw40
      have ho26 := ho26.up hXw40
      have ho27 := ho27.up hXw40
      have ho28 := ho28.up hXw40
      have ho29 := ho29.up hXw40
      have ho30 := ho30.up hXw40
      have hb38 := hb38.up hXw40
      have ho39 := ho39.up hXw40
      have ho40 := ho40.up hXw40
      have ho41 := ho41.up hXw40
      have hb42 := hb42.up hXw40
      have ho43 := ho43.up hXw40
      have ho44 := ho44.up hXw40
      have ho45 := ho45.up hXw40
      have hb52 := hb52.up hXw40
      have ho53 := ho53.up hXw40
      have ho54 := ho54.up hXw40
      have ho55 := ho55.up hXw40
      have hb63 := hb63.up hXw40
      refine WL.pureG rfl rfl rfl rfl rfl (PV.not rfl) ?_
      refine WL.pure rfl rfl rfl (PV.pickF rfl rfl) ?_
      refine WL.mv rfl rfl ?_
      refine WL.pureG rfl rfl rfl rfl rfl (PV.loadA T.ag72 rfl hb52.cells (Ext.refl _) rfl) ?_
      refine WL.opG rfl rfl rfl (OpK.callR rfl T.cf56 rfl (c_impl_ValidTrees_y (Osl.rd ho43) (Osl.rd ho44) (Osl.rd ho45) (by first | assumption | omega | (simp only [marks_len, marksB_len, marksR_len]; omega))) (fun w41 hXw41 => ?_))
      have hB := hB.trans hXw41
      have hBc := (by first | exact hBc.trans hXw41 | exact hB0.trans hXw41)
      have ho5 := ho5.up hXw41
      have ho6 := ho6.up hXw41
      have ho7 := ho7.up hXw41
      have hb9 := hb9.up hXw41
      have ho14 := ho14.up hXw41
      have ho15 := ho15.up hXw41
      have ho16 := ho16.up hXw41
      have hb18 := hb18.up hXw41
      have ho21 := ho21.up hXw41
      have ho23 := ho23.up hXw41
      have ho24 := ho24.up hXw41
      have ho25 := ho25.up hXw41
      have ho26 := ho26.up hXw41
      have ho27 := ho27.up hXw41
      have ho28 := ho28.up hXw41
      have ho29 := ho29.up hXw41
      have ho30 := ho30.up hXw41
      have hb38 := hb38.up hXw41
      have ho39 := ho39.up hXw41
      have ho40 := ho40.up hXw41
      have ho41 := ho41.up hXw41
      have hb42 := hb42.up hXw41
      have ho43 := ho43.up hXw41
      have ho44 := ho44.up hXw41
      have ho45 := ho45.up hXw41
      have hb52 := hb52.up hXw41
      have ho53 := ho53.up hXw41
      have ho54 := ho54.up hXw41
      have ho55 := ho55.up hXw41
      have hb63 := hb63.up hXw41
      refine WL.pureG rfl rfl rfl rfl rfl (PV.not rfl) ?_
      refine WL.pure rfl rfl rfl (PV.pickF rfl rfl) ?_
      refine WL.nil ?_
      exact NQ.cut (ρ := [(322, _)]) ⟨rfl, rfl, rfl, rfl, rfl, rfl, rfl, rfl, trivial⟩ ⟨(), (by first | rfl | exact congrArg (fun b => [(322, Value.bool b)]) (by first | (simp; done) | (simp; omega))), hBc, trivial⟩
    try simp only [nq] at hc11
    refine WL.pureG rfl rfl rfl rfl rfl (PV.move rfl) ?_
    refine WL.pureG rfl rfl rfl rfl rfl (PV.pickT rfl rfl) ?_
    refine WL.pureG rfl rfl rfl rfl rfl (PV.neqB T.bl4 rfl rfl) ?_
    refine WL.pure rfl rfl rfl (PV.pickF rfl rfl) ?_
    refine WL.mv rfl rfl ?_
    refine WL.split (t := 305) rfl (fun hc14 => ?_) (fun hc14 => ?_)
    · skip
      try simp only [nq] at hc14
      exfalso; revert hc14; rw [hbr]; first | (simp; done) | (rw [(by assumption : x44.getD (stT (1 + at8 ys (Int.toNat 41) 4) x22 x33 T20).toNat false = true)]; simp; done) | (rw [(by assumption : x44.getD (stT (1 + at8 ys (Int.toNat 41) 4) x22 x33 T20).toNat false = false)]; simp; done)
    try simp only [nq] at hc14
    refine WL.pureG rfl rfl rfl rfl rfl (PV.fieldAddr T.fl72_0 rfl hb38.cells) ?_
    refine WL.pureG rfl rfl rfl rfl rfl (PV.load1 T.na2 rfl hb38.cells (Ext.refl _) rfl) ?_
    refine WL.pureG rfl rfl rfl rfl rfl (PV.fieldAddr T.fl72_0 rfl hb9.cells) ?_
    refine WL.pureG rfl rfl rfl rfl rfl (PV.load1 T.na2 rfl hb9.cells (Ext.refl _) rfl) ?_
    refine WL.pureG rfl rfl rfl rfl rfl (PV.gtr rfl rfl) ?_
    refine WL.pure rfl rfl rfl (PV.pickF rfl rfl) ?_
    refine WL.mv rfl rfl ?_
    refine WL.split (t := 312) rfl (fun hc15 => ?_) (fun hc15 => ?_)
    · skip
      try simp only [nq] at hc15
      exfalso; first | omega | (revert hc15; simp; done) | (revert hc15; simp; omega)
    try simp only [nq] at hc15
    refine WL.pureG rfl rfl rfl rfl rfl (PV.loadA T.ag72 rfl hb63.cells (Ext.refl _) rfl) ?_
    refine WL.pureG rfl rfl rfl rfl rfl (PV.loadA T.ag72 rfl hb38.cells (Ext.refl _) rfl) ?_
    refine WL.opG rfl rfl rfl (OpK.callR rfl T.cf55 rfl (c_impl_SameTrees_y (Osl.rd ho53) (Osl.rd ho54) (Osl.rd ho55) (Osl.rd ho28) (Osl.rd ho29) (Osl.rd ho30) (by first | assumption | omega | (simp only [marks_len, marksB_len, marksR_len]; omega))) (fun w42 hXw42 => ?_))
    have hB := hB.trans hXw42
    have hBc := (by first | exact hBc.trans hXw42 | exact hB0.trans hXw42)
    have ho5 := ho5.up hXw42
    have ho6 := ho6.up hXw42
    have ho7 := ho7.up hXw42
    have hb9 := hb9.up hXw42
    have ho14 := ho14.up hXw42
    have ho15 := ho15.up hXw42
    have ho16 := ho16.up hXw42
    have hb18 := hb18.up hXw42
    have ho21 := ho21.up hXw42
    have ho23 := ho23.up hXw42
    have ho24 := ho24.up hXw42
    have ho25 := ho25.up hXw42
    have ho26 := ho26.up hXw42
    have ho27 := ho27.up hXw42
    have ho28 := ho28.up hXw42
    have ho29 := ho29.up hXw42
    have ho30 := ho30.up hXw42
    have hb38 := hb38.up hXw42
    have ho39 := ho39.up hXw42
    have ho40 := ho40.up hXw42
    have ho41 := ho41.up hXw42
    have hb42 := hb42.up hXw42
    have ho43 := ho43.up hXw42
    have ho44 := ho44.up hXw42
    have ho45 := ho45.up hXw42
    have hb52 := hb52.up hXw42
    have ho53 := ho53.up hXw42
    have ho54 := ho54.up hXw42
    have ho55 := ho55.up hXw42
    have hb63 := hb63.up hXw42
    refine WL.pureG rfl rfl rfl rfl rfl (PV.not rfl) ?_
    refine WL.pure rfl rfl rfl (PV.pickF rfl rfl) ?_
    refine WL.mv rfl rfl ?_
    refine WL.pureG rfl rfl rfl rfl rfl (PV.loadA T.ag72 rfl hb52.cells (Ext.refl _) rfl) ?_
    refine WL.opG rfl rfl rfl (OpK.callR rfl T.cf56 rfl (c_impl_ValidTrees_y (Osl.rd ho43) (Osl.rd ho44) (Osl.rd ho45) (by first | assumption | omega | (simp only [marks_len, marksB_len, marksR_len]; omega))) (fun w43 hXw43 => ?_))
    have hB := hB.trans hXw43
    have hBc := (by first | exact hBc.trans hXw43 | exact hB0.trans hXw43)
    have ho5 := ho5.up hXw43
    have ho6 := ho6.up hXw43
    have ho7 := ho7.up hXw43
    have hb9 := hb9.up hXw43
    have ho14 := ho14.up hXw43
    have ho15 := ho15.up hXw43
    have ho16 := ho16.up hXw43
    have hb18 := hb18.up hXw43
    have ho21 := ho21.up hXw43
    have ho23 := ho23.up hXw43
    have ho24 := ho24.up hXw43
    have ho25 := ho25.up hXw43
    have ho26 := ho26.up hXw43
    have ho27 := ho27.up hXw43
    have ho28 := ho28.up hXw43
    have ho29 := ho29.up hXw43
    have ho30 := ho30.up hXw43
    have hb38 := hb38.up hXw43
    have ho39 := ho39.up hXw43
    have ho40 := ho40.up hXw43
    have ho41 := ho41.up hXw43
    have hb42 := hb42.up hXw43
    have ho43 := ho43.up hXw43
    have ho44 := ho44.up hXw43
    have ho45 := ho45.up hXw43
    have hb52 := hb52.up hXw43
    have ho53 := ho53.up hXw43
    have ho54 := ho54.up hXw43
    have ho55 := ho55.up hXw43
    have hb63 := hb63.up hXw43
    refine WL.pureG rfl rfl rfl rfl rfl (PV.not rfl) ?_
    refine WL.pure rfl rfl rfl (PV.pickF rfl rfl) ?_
    refine WL.nil ?_
    exact NQ.cut (ρ := [(322, _)]) ⟨rfl, rfl, rfl, rfl, rfl, rfl, rfl, rfl, trivial⟩ ⟨(), (by first | rfl | exact congrArg (fun b => [(322, Value.bool b)]) (by first | (simp; done) | (simp; omega))), hBc, trivial⟩
  rintro _ wc1 ⟨_, rfl, hXc, _⟩
  have hB := hB.trans hXc
  have ho5 := ho5.up hXc
  have ho6 := ho6.up hXc
  have ho7 := ho7.up hXc
  have hb9 := hb9.up hXc
  have ho14 := ho14.up hXc
  have ho15 := ho15.up hXc
  have ho16 := ho16.up hXc
  have hb18 := hb18.up hXc
  have ho21 := ho21.up hXc
  have ho23 := ho23.up hXc
  have ho24 := ho24.up hXc
  have ho25 := ho25.up hXc
  have ho26 := ho26.up hXc
  have ho27 := ho27.up hXc
  have ho28 := ho28.up hXc
  have ho29 := ho29.up hXc
  have ho30 := ho30.up hXc
  have hb38 := hb38.up hXc
  have ho39 := ho39.up hXc
  have ho40 := ho40.up hXc
  have ho41 := ho41.up hXc
  have hb42 := hb42.up hXc
  have ho43 := ho43.up hXc
  have ho44 := ho44.up hXc
  have ho45 := ho45.up hXc
  have hb52 := hb52.up hXc
  have ho53 := ho53.up hXc
  have ho54 := ho54.up hXc
  have ho55 := ho55.up hXc
  have hb63 := hb63.up hXc
  refine CW.condF rfl ?_
  refine CW.skipS ?_
  refine CW.seq ?_
  refine CW.reg ?_
  refine WL.mv rfl rfl ?_
  refine WL.op rfl (OpK.callR rfl T.cf23 rfl (c_laws_r8At (by first | assumption | exact Rd.up (by assumption) hB | exact Osl.rd (by assumption) | exact Osn.rdR (by assumption) | exact NL.rd (by assumption) | exact rdII (by assumption) (by assumption) | exact Inn.rd (by assumption) (by omega)) (by first | assumption | omega | (simp only [marks_len, marksB_len, marksR_len]; omega)) (by first | assumption | omega | (simp only [marks_len, marksB_len, marksR_len]; omega))) (fun w44 hXw44 => ?_))
  have hB := hB.trans hXw44
  have ho5 := ho5.up hXw44
  have ho6 := ho6.up hXw44
  have ho7 := ho7.up hXw44
  have hb9 := hb9.up hXw44
  have ho14 := ho14.up hXw44
  have ho15 := ho15.up hXw44
  have ho16 := ho16.up hXw44
  have hb18 := hb18.up hXw44
  have ho21 := ho21.up hXw44
  have ho23 := ho23.up hXw44
  have ho24 := ho24.up hXw44
  have ho25 := ho25.up hXw44
  have ho26 := ho26.up hXw44
  have ho27 := ho27.up hXw44
  have ho28 := ho28.up hXw44
  have ho29 := ho29.up hXw44
  have ho30 := ho30.up hXw44
  have hb38 := hb38.up hXw44
  have ho39 := ho39.up hXw44
  have ho40 := ho40.up hXw44
  have ho41 := ho41.up hXw44
  have hb42 := hb42.up hXw44
  have ho43 := ho43.up hXw44
  have ho44 := ho44.up hXw44
  have ho45 := ho45.up hXw44
  have hb52 := hb52.up hXw44
  have ho53 := ho53.up hXw44
  have ho54 := ho54.up hXw44
  have ho55 := ho55.up hXw44
  have hb63 := hb63.up hXw44
  refine WL.pure rfl rfl rfl (PV.add rfl rfl (by constructor <;> omega)) ?_
  refine WL.asg rfl rfl ?_
  refine WL.nilS ?_
  refine CW.seq ?_
  refine CW.reg ?_
  refine WL.pure rfl rfl rfl (PV.loadA T.ag72 rfl hb9.cells (Ext.refl _) rfl) ?_
  refine WL.mv rfl rfl ?_
  refine WL.op rfl (OpK.callR rfl T.cf57 rfl (c_impl_CountTreesRead_y (Osl.rd ho5) (Osl.rd ho6) (Osl.rd ho7) (by first | assumption | omega | (simp only [marks_len, marksB_len, marksR_len]; omega)) (by first | assumption | omega | (simp only [marks_len, marksB_len, marksR_len]; omega))) (fun w45 hXw45 => ?_))
  have hB := hB.trans hXw45
  have ho5 := ho5.up hXw45
  have ho6 := ho6.up hXw45
  have ho7 := ho7.up hXw45
  have hb9 := hb9.up hXw45
  have ho14 := ho14.up hXw45
  have ho15 := ho15.up hXw45
  have ho16 := ho16.up hXw45
  have hb18 := hb18.up hXw45
  have ho21 := ho21.up hXw45
  have ho23 := ho23.up hXw45
  have ho24 := ho24.up hXw45
  have ho25 := ho25.up hXw45
  have ho26 := ho26.up hXw45
  have ho27 := ho27.up hXw45
  have ho28 := ho28.up hXw45
  have ho29 := ho29.up hXw45
  have ho30 := ho30.up hXw45
  have hb38 := hb38.up hXw45
  have ho39 := ho39.up hXw45
  have ho40 := ho40.up hXw45
  have ho41 := ho41.up hXw45
  have hb42 := hb42.up hXw45
  have ho43 := ho43.up hXw45
  have ho44 := ho44.up hXw45
  have ho45 := ho45.up hXw45
  have hb52 := hb52.up hXw45
  have ho53 := ho53.up hXw45
  have ho54 := ho54.up hXw45
  have ho55 := ho55.up hXw45
  have hb63 := hb63.up hXw45
  refine WL.mv rfl rfl ?_
  refine WL.pure rfl rfl rfl (PV.extract rfl rfl) ?_
  refine WL.pure rfl rfl rfl (PV.extract rfl rfl) ?_
  refine WL.asg rfl rfl ?_
  refine WL.asg rfl rfl ?_
  refine WL.nilS ?_
  refine CW.seq ?_
  refine CW.reg ?_
  refine WL.pure rfl rfl rfl (PV.loadA T.ag72 rfl hb42.cells (Ext.refl _) rfl) ?_
  refine WL.mv rfl rfl ?_
  refine WL.op rfl (OpK.callR rfl T.cf57 rfl (c_impl_CountTreesRead_y (Osl.rd ho39) (Osl.rd ho40) (Osl.rd ho41) (by first | assumption | omega | (simp only [marks_len, marksB_len, marksR_len]; omega)) (by first | assumption | omega | (simp only [marks_len, marksB_len, marksR_len]; omega))) (fun w46 hXw46 => ?_))
  have hB := hB.trans hXw46
  have ho5 := ho5.up hXw46
  have ho6 := ho6.up hXw46
  have ho7 := ho7.up hXw46
  have hb9 := hb9.up hXw46
  have ho14 := ho14.up hXw46
  have ho15 := ho15.up hXw46
  have ho16 := ho16.up hXw46
  have hb18 := hb18.up hXw46
  have ho21 := ho21.up hXw46
  have ho23 := ho23.up hXw46
  have ho24 := ho24.up hXw46
  have ho25 := ho25.up hXw46
  have ho26 := ho26.up hXw46
  have ho27 := ho27.up hXw46
  have ho28 := ho28.up hXw46
  have ho29 := ho29.up hXw46
  have ho30 := ho30.up hXw46
  have hb38 := hb38.up hXw46
  have ho39 := ho39.up hXw46
  have ho40 := ho40.up hXw46
  have ho41 := ho41.up hXw46
  have hb42 := hb42.up hXw46
  have ho43 := ho43.up hXw46
  have ho44 := ho44.up hXw46
  have ho45 := ho45.up hXw46
  have hb52 := hb52.up hXw46
  have ho53 := ho53.up hXw46
  have ho54 := ho54.up hXw46
  have ho55 := ho55.up hXw46
  have hb63 := hb63.up hXw46
  refine WL.mv rfl rfl ?_
  refine WL.pure rfl rfl rfl (PV.extract rfl rfl) ?_
  refine WL.pure rfl rfl rfl (PV.extract rfl rfl) ?_
  refine WL.asg rfl rfl ?_
  refine WL.asg rfl rfl ?_
  refine WL.nilS ?_
  refine CW.seq ?_
  refine CW.reg ?_
  refine WL.pure rfl rfl rfl (PV.loadA T.ag72 rfl hb38.cells (Ext.refl _) rfl) ?_
  refine WL.mv rfl rfl ?_
  refine WL.op rfl (OpK.callR rfl T.cf57 rfl (c_impl_CountTreesRead_y (Osl.rd ho28) (Osl.rd ho29) (Osl.rd ho30) (by first | assumption | omega | (simp only [marks_len, marksB_len, marksR_len]; omega)) (by first | assumption | omega | (simp only [marks_len, marksB_len, marksR_len]; omega))) (fun w47 hXw47 => ?_))
  have hB := hB.trans hXw47
  have ho5 := ho5.up hXw47
  have ho6 := ho6.up hXw47
  have ho7 := ho7.up hXw47
  have hb9 := hb9.up hXw47
  have ho14 := ho14.up hXw47
  have ho15 := ho15.up hXw47
  have ho16 := ho16.up hXw47
  have hb18 := hb18.up hXw47
  have ho21 := ho21.up hXw47
  have ho23 := ho23.up hXw47
  have ho24 := ho24.up hXw47
  have ho25 := ho25.up hXw47
  have ho26 := ho26.up hXw47
  have ho27 := ho27.up hXw47
  have ho28 := ho28.up hXw47
  have ho29 := ho29.up hXw47
  have ho30 := ho30.up hXw47
  have hb38 := hb38.up hXw47
  have ho39 := ho39.up hXw47
  have ho40 := ho40.up hXw47
  have ho41 := ho41.up hXw47
  have hb42 := hb42.up hXw47
  have ho43 := ho43.up hXw47
  have ho44 := ho44.up hXw47
  have ho45 := ho45.up hXw47
  have hb52 := hb52.up hXw47
  have ho53 := ho53.up hXw47
  have ho54 := ho54.up hXw47
  have ho55 := ho55.up hXw47
  have hb63 := hb63.up hXw47
  refine WL.mv rfl rfl ?_
  refine WL.pure rfl rfl rfl (PV.extract rfl rfl) ?_
  refine WL.pure rfl rfl rfl (PV.extract rfl rfl) ?_
  refine WL.asg rfl rfl ?_
  refine WL.asg rfl rfl ?_
  refine WL.nilS ?_
  refine CW.seq ?_
  refine CW.reg ?_
  refine WL.op rfl (OpK.buildS VI (os := [.const (.int .i64 1), .const (.int .i64 1), .const (.int .i64 2), .const (.int .i64 5), .const (.int .i64 14), .const (.int .i64 42)]) [_, _, _, _, _, _] rfl T.sl28 rfl rfl T.zv2 rfl (by intro z hz; first | rfl | (simp only [List.mem_cons, List.not_mem_nil, or_false] at hz; rcases hz with hz | hz | hz | hz | hz | hz <;> subst hz <;> exact (by first | exact Rd.cells1 (by assumption) | exact Osl.cells1 (by assumption) | exact Osn.cells1 (by assumption) | exact Rd.cells1 (NL.rd (by assumption)) | exact Inn.cell1 (by assumption) (by omega) | assumption | rfl))) rfl (fun v64 g64 w48 hXw48 ho64 hge64 => ?_))
  have hl64 := Lo.new hB hge64
  have hd5_64 := Dj.new ho5.ltO hge64
  have hd6_64 := Dj.new ho6.ltO hge64
  have hd7_64 := Dj.new ho7.ltO hge64
  have hd9_64 := Dj.new hb9.ltO hge64
  have hd14_64 := Dj.new ho14.ltO hge64
  have hd15_64 := Dj.new ho15.ltO hge64
  have hd16_64 := Dj.new ho16.ltO hge64
  have hd18_64 := Dj.new hb18.ltO hge64
  have hd21_64 := Dj.new ho21.ltO hge64
  have hd23_64 := Dj.new ho23.ltO hge64
  have hd24_64 := Dj.new ho24.ltO hge64
  have hd25_64 := Dj.new ho25.ltO hge64
  have hd26_64 := Dj.new ho26.ltO hge64
  have hd27_64 := Dj.new ho27.ltO hge64
  have hd28_64 := Dj.new ho28.ltO hge64
  have hd29_64 := Dj.new ho29.ltO hge64
  have hd30_64 := Dj.new ho30.ltO hge64
  have hd38_64 := Dj.new hb38.ltO hge64
  have hd39_64 := Dj.new ho39.ltO hge64
  have hd40_64 := Dj.new ho40.ltO hge64
  have hd41_64 := Dj.new ho41.ltO hge64
  have hd42_64 := Dj.new hb42.ltO hge64
  have hd43_64 := Dj.new ho43.ltO hge64
  have hd44_64 := Dj.new ho44.ltO hge64
  have hd45_64 := Dj.new ho45.ltO hge64
  have hd52_64 := Dj.new hb52.ltO hge64
  have hd53_64 := Dj.new ho53.ltO hge64
  have hd54_64 := Dj.new ho54.ltO hge64
  have hd55_64 := Dj.new ho55.ltO hge64
  have hd63_64 := Dj.new hb63.ltO hge64
  have hB := hB.trans hXw48
  have ho5 := ho5.up hXw48
  have ho6 := ho6.up hXw48
  have ho7 := ho7.up hXw48
  have hb9 := hb9.up hXw48
  have ho14 := ho14.up hXw48
  have ho15 := ho15.up hXw48
  have ho16 := ho16.up hXw48
  have hb18 := hb18.up hXw48
  have ho21 := ho21.up hXw48
  have ho23 := ho23.up hXw48
  have ho24 := ho24.up hXw48
  have ho25 := ho25.up hXw48
  have ho26 := ho26.up hXw48
  have ho27 := ho27.up hXw48
  have ho28 := ho28.up hXw48
  have ho29 := ho29.up hXw48
  have ho30 := ho30.up hXw48
  have hb38 := hb38.up hXw48
  have ho39 := ho39.up hXw48
  have ho40 := ho40.up hXw48
  have ho41 := ho41.up hXw48
  have hb42 := hb42.up hXw48
  have ho43 := ho43.up hXw48
  have ho44 := ho44.up hXw48
  have ho45 := ho45.up hXw48
  have hb52 := hb52.up hXw48
  have ho53 := ho53.up hXw48
  have ho54 := ho54.up hXw48
  have ho55 := ho55.up hXw48
  have hb63 := hb63.up hXw48
  refine WL.asg rfl rfl ?_
  refine WL.nilS ?_
  refine CW.seq ?_
  refine CW.reg ?_
  refine WL.mv rfl rfl ?_
  refine WL.mv rfl rfl ?_
  refine WL.pure rfl rfl rfl (PV.sub rfl rfl (by constructor <;> omega)) ?_
  first
    | refine WL.atO (x := .tmp 345) (y := .tmp 347) (f := VI) (0) rfl rfl ho64 (by simp only [List.length_cons, List.length_nil]; omega) (fun p2 hpp2 hcp2 => ?_)
    | refine WL.atOZ (x := .tmp 345) (y := .tmp 347) (f := VI) (0) rfl rfl ho64 (by simp only [List.length_cons, List.length_nil]; omega) (fun p2 hpp2 hzp2 hcp2 => ?_)
  refine WL.pure rfl rfl rfl ((by first | exact PV.indexAddr hpp2 rfl rfl T.sl28 | exact PV.indexAddr hpp2 rfl (by rw [← hzp2]; rfl) T.sl28)) ?_
  refine WL.pure rfl rfl rfl ((by first | exact PV.load0 T.na2 rfl (by first | exact Cells.up (by assumption) hB | exact Bx.cells (by assumption) | assumption) (Ext.refl _) rfl | exact PV.load1 T.na2 rfl (by first | exact Cells.up (by assumption) hB | exact Bx.cells (by assumption) | assumption) (Ext.refl _) rfl)) ?_
  refine WL.asg rfl rfl ?_
  refine WL.nilS ?_
  refine CW.seq ?_
  refine CW.seq ?_
  refine CW.reg ?_
  refine WL.asg rfl rfl ?_
  refine WL.nilS ?_
  refine CW.block ?_
  refine CW.loop (σk := [(5, _), (6, _), (9, _), (23, _), (41, _), (42, _), (43, _), (44, _), (45, _), (46, _), (47, _)]) (fun ρ wz m => ∃ (k : Nat), ρ = [(49, .int .i64 ((shpN (1 + at8 ys (Int.toNat 43) 6).toNat * (1 + at8 ys (Int.toNat 40) 3).toNat ^ k : Nat) : Int)), (50, .int .i64 (k : Nat))] ∧ m = 6 - k ∧ UpdL [] w48 wz ∧ ((k : Int) ≤ (1 + at8 ys (Int.toNat 43) 6))) (ρ₀ := [(49, _), (50, _)]) (m₀ := _) ⟨rfl, rfl, rfl, rfl, rfl, rfl, rfl, rfl, rfl, rfl, rfl, rfl, rfl, trivial⟩ ⟨0, (by rw [← shp_int (n := (1 + at8 ys (Int.toNat 43) 6)) (by omega) (1 + at8 ys (Int.toNat 40) 3).toNat]; rfl), rfl, (UpdL.refl _ _), (by first | omega | rfl | (simp; done) | assumption | (simp_all; done))⟩ ?_
  rintro _ wl1 _ ⟨k, rfl, rfl, hU0, hk⟩
  have ho5 := ho5.loop hU0 trivial
  have ho6 := ho6.loop hU0 trivial
  have ho7 := ho7.loop hU0 trivial
  have hb9 := hb9.loop hU0 trivial
  have ho14 := ho14.loop hU0 trivial
  have ho15 := ho15.loop hU0 trivial
  have ho16 := ho16.loop hU0 trivial
  have hb18 := hb18.loop hU0 trivial
  have ho21 := ho21.loop hU0 trivial
  have ho23 := ho23.loop hU0 trivial
  have ho24 := ho24.loop hU0 trivial
  have ho25 := ho25.loop hU0 trivial
  have ho26 := ho26.loop hU0 trivial
  have ho27 := ho27.loop hU0 trivial
  have ho28 := ho28.loop hU0 trivial
  have ho29 := ho29.loop hU0 trivial
  have ho30 := ho30.loop hU0 trivial
  have hb38 := hb38.loop hU0 trivial
  have ho39 := ho39.loop hU0 trivial
  have ho40 := ho40.loop hU0 trivial
  have ho41 := ho41.loop hU0 trivial
  have hb42 := hb42.loop hU0 trivial
  have ho43 := ho43.loop hU0 trivial
  have ho44 := ho44.loop hU0 trivial
  have ho45 := ho45.loop hU0 trivial
  have hb52 := hb52.loop hU0 trivial
  have ho53 := ho53.loop hU0 trivial
  have ho54 := ho54.loop hU0 trivial
  have ho55 := ho55.loop hU0 trivial
  have hb63 := hb63.loop hU0 trivial
  have ho64 := ho64.loop hU0 trivial
  have hB := hB.loop hU0 trivial
  refine CW.seq ?_
  refine CW.seq ?_
  refine CW.reg ?_
  refine WL.mv rfl rfl ?_
  refine WL.mv rfl rfl ?_
  refine WL.pure rfl rfl rfl (PV.lss rfl rfl) ?_
  refine WL.nilS ?_
  refine CW.cond rfl (fun hc16 => ?_) (fun hc16 => ?_)
  · skip
    try simp only [nq] at hc16
    refine CW.skipS ?_
    refine CW.seq ?_
    refine CW.block ?_
    refine CW.reg ?_
    refine WL.mv rfl rfl ?_
    refine WL.mv rfl rfl ?_
    refine WL.pure rfl rfl rfl (PV.mul rfl rfl (by have h9 := pw_le (n := (1 + at8 ys (Int.toNat 43) 6).toNat) (l := (1 + at8 ys (Int.toNat 40) 3).toNat) (k := k + 1) (by omega) (by omega) (by omega); rw [pw_step (L := (1 + at8 ys (Int.toNat 40) 3)) (l := (1 + at8 ys (Int.toNat 40) 3).toNat) (by omega)]; constructor <;> omega)) ?_
    refine WL.asg rfl rfl ?_
    refine WL.nil ?_
    refine NQ.block ?_
    refine NQ.then ?_
    refine CW.reg ?_
    refine WL.mv rfl rfl ?_
    refine WL.pure rfl rfl rfl (PV.add rfl rfl (by constructor <;> omega)) ?_
    refine WL.asg rfl rfl ?_
    refine WL.nil ?_
    refine NQ.next (ρ := [(49, _), (50, _)]) ⟨rfl, rfl, rfl, rfl, rfl, rfl, rfl, rfl, rfl, rfl, rfl, rfl, rfl, trivial⟩ ?_
    exact ⟨_, ⟨k + 1, (by rw [← pw_step (L := (1 + at8 ys (Int.toNat 40) 3)) (by omega)]; rfl), rfl, hU0, (by first | omega | assumption | (simp_all; done) | (simp_all; omega))⟩, by omega⟩
  try simp only [nq] at hc16
  refine CW.exit ?_
  refine XQ.then ?_
  refine XQ.then ?_
  refine XQ.here ?_
  refine NQ.then ?_
  refine CW.seq ?_
  refine CW.reg ?_
  have hwb := lv_word hm8.2.1 hT h23
  refine WL.pure rfl rfl rfl (PV.loadA T.ag72 rfl hb9.cells (Ext.refl _) rfl) ?_
  refine WL.mv rfl rfl ?_
  refine WL.op rfl (OpK.callR rfl T.cf58 rfl (c_impl_WordHasTree_y (Osl.rd ho5) (Osl.rd ho6) (Osl.rd ho7) (Osl.rd ho23) (by first | assumption | omega | (simp only [marks_len, marksB_len, marksR_len]; omega)) (by first | assumption | omega | (simp only [marks_len, marksB_len, marksR_len]; omega)) (by first | assumption | omega | (simp only [marks_len, marksB_len, marksR_len]; omega))) (fun w49 hXw49 => ?_))
  have hB := hB.trans hXw49
  have ho5 := ho5.up hXw49
  have ho6 := ho6.up hXw49
  have ho7 := ho7.up hXw49
  have hb9 := hb9.up hXw49
  have ho14 := ho14.up hXw49
  have ho15 := ho15.up hXw49
  have ho16 := ho16.up hXw49
  have hb18 := hb18.up hXw49
  have ho21 := ho21.up hXw49
  have ho23 := ho23.up hXw49
  have ho24 := ho24.up hXw49
  have ho25 := ho25.up hXw49
  have ho26 := ho26.up hXw49
  have ho27 := ho27.up hXw49
  have ho28 := ho28.up hXw49
  have ho29 := ho29.up hXw49
  have ho30 := ho30.up hXw49
  have hb38 := hb38.up hXw49
  have ho39 := ho39.up hXw49
  have ho40 := ho40.up hXw49
  have ho41 := ho41.up hXw49
  have hb42 := hb42.up hXw49
  have ho43 := ho43.up hXw49
  have ho44 := ho44.up hXw49
  have ho45 := ho45.up hXw49
  have hb52 := hb52.up hXw49
  have ho53 := ho53.up hXw49
  have ho54 := ho54.up hXw49
  have ho55 := ho55.up hXw49
  have hb63 := hb63.up hXw49
  have ho64 := ho64.up hXw49
  refine WL.mv rfl rfl ?_
  refine WL.pure rfl rfl rfl (PV.extract rfl rfl) ?_
  refine WL.pure rfl rfl rfl (PV.extract rfl rfl) ?_
  refine WL.asg rfl rfl ?_
  refine WL.asg rfl rfl ?_
  refine WL.nilS ?_
  refine CW.seq ?_
  refine CW.cut (σk := [(6, _), (42, _)]) (fun ρ wz => ∃ (_ : Unit), ρ = [(396, .bool false)] ∧ Ext w49 wz ∧ True) ⟨rfl, rfl, trivial⟩ ?_ ?_
  · skip
    have hB0 := Ext.refl w49
    have hBc := Ext.refl w49
    refine CW.reg ?_
    have hN9 : (((1 + at8 ys (Int.toNat 43) 6).toNat : Nat) : Int) = (1 + at8 ys (Int.toNat 43) 6) := (by omega); have hN6 : 1 ≤ (1 + at8 ys (Int.toNat 43) 6).toNat ∧ (1 + at8 ys (Int.toNat 43) 6).toNat ≤ 6 := (by omega); have hco := ct_other tv hL3 hen hN6; have hcs := ct_small tv hL3 hen hm36 hN6; have hr1 := ct_rng (en := x44) tv hL3 hN6; have hr2 := ct_rng (en := x44.map not) tv hL3 hN6; rw [hN9] at hco hcs hr1 hr2; (obtain rfl : k = (1 + at8 ys (Int.toNat 43) 6).toNat := (by omega)); have hhas := has_of (en := x44) (t := T20) hsr.1
    refine WL.mv rfl rfl ?_
    refine WL.pure rfl rfl rfl (PV.not rfl) ?_
    refine WL.mv rfl rfl ?_
    refine WL.pureG rfl rfl rfl rfl rfl (PV.move rfl) ?_
    refine WL.pureG rfl rfl rfl rfl rfl (PV.not rfl) ?_
    refine WL.pure rfl rfl rfl (PV.pickF rfl rfl) ?_
    refine WL.mv rfl rfl ?_
    refine WL.pureG rfl rfl rfl rfl rfl (PV.move rfl) ?_
    refine WL.pureG rfl rfl rfl rfl rfl (PV.not rfl) ?_
    refine WL.pure rfl rfl rfl (PV.pickF rfl rfl) ?_
    refine WL.mv rfl rfl ?_
    refine WL.pureG rfl rfl rfl rfl rfl (PV.move rfl) ?_
    refine WL.pureG rfl rfl rfl rfl rfl (PV.not rfl) ?_
    refine WL.pure rfl rfl rfl (PV.pickF rfl rfl) ?_
    refine WL.mv rfl rfl ?_
    refine WL.pureG rfl rfl rfl rfl rfl (PV.move rfl) ?_
    refine WL.pureG rfl rfl rfl rfl rfl (PV.move rfl) ?_
    refine WL.pureG rfl rfl rfl rfl rfl (PV.add rfl rfl (by constructor <;> omega)) ?_
    refine WL.pureG rfl rfl rfl rfl rfl (PV.move rfl) ?_
    refine WL.pureG rfl rfl rfl rfl rfl (PV.neq rfl rfl) ?_
    refine WL.pure rfl rfl rfl (PV.pickF rfl rfl) ?_
    refine WL.mv rfl rfl ?_
    refine WL.split (t := 385) rfl (fun hc17 => ?_) (fun hc17 => ?_)
    · skip
      try simp only [nq] at hc17
      exfalso; revert hc17; rw [hco]; simp
    try simp only [nq] at hc17
    refine WL.pureG rfl rfl rfl rfl rfl (PV.move rfl) ?_
    refine WL.pureG rfl rfl rfl rfl rfl (PV.move rfl) ?_
    refine WL.pureG rfl rfl rfl rfl rfl (PV.neq rfl rfl) ?_
    refine WL.pure rfl rfl rfl (PV.pickF rfl rfl) ?_
    refine WL.mv rfl rfl ?_
    refine WL.split (t := 390) rfl (fun hc18 => ?_) (fun hc18 => ?_)
    · skip
      try simp only [nq] at hc18
      exfalso; revert hc18; rw [hcs]; simp
    try simp only [nq] at hc18
    refine WL.pureG rfl rfl rfl rfl rfl (PV.move rfl) ?_
    refine WL.pureG rfl rfl rfl rfl rfl (PV.move rfl) ?_
    refine WL.split (t := 392) rfl (fun hc19 => ?_) (fun hc19 => ?_)
    rotate_left
    · skip
      try simp only [nq] at hc19
      refine WL.skip rfl rfl rfl rfl rfl ?_
      refine WL.skip rfl rfl rfl rfl rfl ?_
      refine WL.pureG rfl rfl rfl rfl rfl (PV.pickF rfl rfl) ?_
      refine WL.pure rfl rfl rfl (PV.pickF rfl rfl) ?_
      refine WL.nil ?_
      exact NQ.cut (ρ := [(396, _)]) ⟨rfl, rfl, rfl, trivial⟩ ⟨(), (by first | rfl | exact congrArg (fun b => [(396, Value.bool b)]) (by first | (simp; done) | (rw [hhas (by assumption)]; simp; done) | (rw [hcs]; simp; done))), hBc, trivial⟩
    try simp only [nq] at hc19
    refine WL.pureG rfl rfl rfl rfl rfl (PV.move rfl) ?_
    refine WL.pureG rfl rfl rfl rfl rfl (PV.not rfl) ?_
    refine WL.pureG rfl rfl rfl rfl rfl (PV.pickT rfl rfl) ?_
    refine WL.pure rfl rfl rfl (PV.pickF rfl rfl) ?_
    refine WL.nil ?_
    exact NQ.cut (ρ := [(396, _)]) ⟨rfl, rfl, rfl, trivial⟩ ⟨(), (by first | rfl | exact congrArg (fun b => [(396, Value.bool b)]) (by first | (simp; done) | (rw [hhas (by assumption)]; simp; done) | (rw [hcs]; simp; done))), hBc, trivial⟩
  rintro _ wc2 ⟨_, rfl, hXc, _⟩
  have hB := hB.trans hXc
  have ho5 := ho5.up hXc
  have ho6 := ho6.up hXc
  have ho7 := ho7.up hXc
  have hb9 := hb9.up hXc
  have ho14 := ho14.up hXc
  have ho15 := ho15.up hXc
  have ho16 := ho16.up hXc
  have hb18 := hb18.up hXc
  have ho21 := ho21.up hXc
  have ho23 := ho23.up hXc
  have ho24 := ho24.up hXc
  have ho25 := ho25.up hXc
  have ho26 := ho26.up hXc
  have ho27 := ho27.up hXc
  have ho28 := ho28.up hXc
  have ho29 := ho29.up hXc
  have ho30 := ho30.up hXc
  have hb38 := hb38.up hXc
  have ho39 := ho39.up hXc
  have ho40 := ho40.up hXc
  have ho41 := ho41.up hXc
  have hb42 := hb42.up hXc
  have ho43 := ho43.up hXc
  have ho44 := ho44.up hXc
  have ho45 := ho45.up hXc
  have hb52 := hb52.up hXc
  have ho53 := ho53.up hXc
  have ho54 := ho54.up hXc
  have ho55 := ho55.up hXc
  have hb63 := hb63.up hXc
  have ho64 := ho64.up hXc
  refine CW.condF rfl ?_
  refine CW.skipS ?_
  refine CW.seq ?_
  refine CW.reg ?_
  refine WL.pure rfl rfl rfl (PV.loadA T.ag72 rfl hb9.cells (Ext.refl _) rfl) ?_
  refine WL.op rfl (OpK.call rfl T.cf59 rfl (c_impl_FirstTree_y (Osl.rd ho5) (Osl.rd ho6) (Osl.rd ho7) (by first | assumption | omega | (simp only [marks_len, marksB_len, marksR_len]; omega))) (fun rv13 w50 hR => ?_))
  obtain ⟨hXw50, v65, og65, rfl, ho65, hq65⟩ := hR
  have hl65 := Lo.up hq65 hB
  have hd5_65 := Dj.lo ho5.ltO hq65
  have hd6_65 := Dj.lo ho6.ltO hq65
  have hd7_65 := Dj.lo ho7.ltO hq65
  have hd9_65 := Dj.lo hb9.ltO hq65
  have hd14_65 := Dj.lo ho14.ltO hq65
  have hd15_65 := Dj.lo ho15.ltO hq65
  have hd16_65 := Dj.lo ho16.ltO hq65
  have hd18_65 := Dj.lo hb18.ltO hq65
  have hd21_65 := Dj.lo ho21.ltO hq65
  have hd23_65 := Dj.lo ho23.ltO hq65
  have hd24_65 := Dj.lo ho24.ltO hq65
  have hd25_65 := Dj.lo ho25.ltO hq65
  have hd26_65 := Dj.lo ho26.ltO hq65
  have hd27_65 := Dj.lo ho27.ltO hq65
  have hd28_65 := Dj.lo ho28.ltO hq65
  have hd29_65 := Dj.lo ho29.ltO hq65
  have hd30_65 := Dj.lo ho30.ltO hq65
  have hd38_65 := Dj.lo hb38.ltO hq65
  have hd39_65 := Dj.lo ho39.ltO hq65
  have hd40_65 := Dj.lo ho40.ltO hq65
  have hd41_65 := Dj.lo ho41.ltO hq65
  have hd42_65 := Dj.lo hb42.ltO hq65
  have hd43_65 := Dj.lo ho43.ltO hq65
  have hd44_65 := Dj.lo ho44.ltO hq65
  have hd45_65 := Dj.lo ho45.ltO hq65
  have hd52_65 := Dj.lo hb52.ltO hq65
  have hd53_65 := Dj.lo ho53.ltO hq65
  have hd54_65 := Dj.lo ho54.ltO hq65
  have hd55_65 := Dj.lo ho55.ltO hq65
  have hd63_65 := Dj.lo hb63.ltO hq65
  have hd64_65 := Dj.lo ho64.ltO hq65
  have hB := hB.trans hXw50
  have ho5 := ho5.up hXw50
  have ho6 := ho6.up hXw50
  have ho7 := ho7.up hXw50
  have hb9 := hb9.up hXw50
  have ho14 := ho14.up hXw50
  have ho15 := ho15.up hXw50
  have ho16 := ho16.up hXw50
  have hb18 := hb18.up hXw50
  have ho21 := ho21.up hXw50
  have ho23 := ho23.up hXw50
  have ho24 := ho24.up hXw50
  have ho25 := ho25.up hXw50
  have ho26 := ho26.up hXw50
  have ho27 := ho27.up hXw50
  have ho28 := ho28.up hXw50
  have ho29 := ho29.up hXw50
  have ho30 := ho30.up hXw50
  have hb38 := hb38.up hXw50
  have ho39 := ho39.up hXw50
  have ho40 := ho40.up hXw50
  have ho41 := ho41.up hXw50
  have hb42 := hb42.up hXw50
  have ho43 := ho43.up hXw50
  have ho44 := ho44.up hXw50
  have ho45 := ho45.up hXw50
  have hb52 := hb52.up hXw50
  have ho53 := ho53.up hXw50
  have ho54 := ho54.up hXw50
  have ho55 := ho55.up hXw50
  have hb63 := hb63.up hXw50
  have ho64 := ho64.up hXw50
  refine WL.mv rfl rfl ?_
  refine WL.pure rfl rfl rfl (PV.extract rfl rfl) ?_
  refine WL.pure rfl rfl rfl (PV.extract rfl rfl) ?_
  refine WL.asg rfl rfl ?_
  refine WL.asg rfl rfl ?_
  refine WL.nilS ?_
  refine CW.seq ?_
  refine CW.seq ?_
  refine CW.reg ?_
  refine WL.mv rfl rfl ?_
  refine WL.pure rfl rfl rfl (PV.not rfl) ?_
  refine WL.nilS ?_
  refine CW.cond rfl (fun hc20 => ?_) (fun hc20 => ?_)
  · skip
    try simp only [nq] at hc20
    have hnf := (by assumption : ftB true x44 (foundL (1 + at8 ys (Int.toNat 41) 4) x33 x22) = false); have hz0 : (1 + at8 ys (Int.toNat 41) 4) ≤ 3 → ctI true (1 + at8 ys (Int.toNat 41) 4) x22 x33 x44 (1 + at8 ys (Int.toNat 43) 6) = 0 := (fun h => by have h9 := ct_zero tv hL3 (ft_few tv hnf h) (n := (1 + at8 ys (Int.toNat 43) 6).toNat) (by omega); rw [show (((1 + at8 ys (Int.toNat 43) 6).toNat : Nat) : Int) = (1 + at8 ys (Int.toNat 43) 6) from (by omega)] at h9; exact h9)
    refine CW.seq ?_
    refine CW.reg ?_
    refine WL.mv rfl rfl ?_
    refine WL.pure rfl rfl rfl (PV.eql rfl rfl) ?_
    refine WL.mv rfl rfl ?_
    refine WL.split (t := 406) rfl (fun hc21 => ?_) (fun hc21 => ?_)
    · skip
      try simp only [nq] at hc21
      refine WL.skip rfl rfl rfl rfl rfl ?_
      refine WL.skip rfl rfl rfl rfl rfl ?_
      refine WL.skip rfl rfl rfl rfl rfl ?_
      refine WL.pure rfl rfl rfl (PV.pickT rfl rfl) ?_
      refine WL.asg rfl rfl ?_
      refine WL.nilS ?_
      refine CW.ret ?_
      refine RQ.then ?_
      refine RQ.r1 rfl ?_
      refine ⟨?_, hB⟩
      first | rfl | exact congrArg Value.bool (decide_eq_true (by omega))
    try simp only [nq] at hc21
    refine WL.pureG rfl rfl rfl rfl rfl (PV.fieldAddr T.fl72_0 rfl hb9.cells) ?_
    refine WL.pureG rfl rfl rfl rfl rfl (PV.load1 T.na2 rfl hb9.cells (Ext.refl _) rfl) ?_
    refine WL.pureG rfl rfl rfl rfl rfl (PV.gtr rfl rfl) ?_
    refine WL.pure rfl rfl rfl (PV.pickF rfl rfl) ?_
    refine WL.asg rfl rfl ?_
    refine WL.nilS ?_
    refine CW.ret ?_
    refine RQ.then ?_
    refine RQ.r1 rfl ?_
    refine ⟨?_, hB⟩
    first | rfl | exact congrArg Value.bool (decide_eq_true (by omega))
  try simp only [nq] at hc20
  have hfl2 := ftT_len true x44 (foundL (1 + at8 ys (Int.toNat 41) 4) x33 x22); obtain ⟨T2, hx2, hT2, h232, hr22⟩ := ft_reads tv (by assumption : ftB true x44 (foundL (1 + at8 ys (Int.toNat 41) 4) x33 x22) = true)
  refine CW.skipS ?_
  refine CW.seq ?_
  refine CW.reg ?_
  refine WL.pure rfl rfl rfl (PV.loadA T.ag72 rfl hb9.cells (Ext.refl _) rfl) ?_
  refine WL.mv rfl rfl ?_
  refine WL.op rfl (OpK.callR rfl T.cf51 rfl (c_impl_ReadsTree_y (Osl.rd ho5) (Osl.rd ho6) (Osl.rd ho7) (Osl.rd ho65) (by first | assumption | omega | (simp only [marks_len, marksB_len, marksR_len]; omega)) (by first | assumption | omega | (simp only [marks_len, marksB_len, marksR_len]; omega)) (by first | rfl | assumption) (by first | assumption | omega | (simp only [marks_len, marksB_len, marksR_len]; omega)) (by first | assumption | omega | (simp only [marks_len, marksB_len, marksR_len]; omega))) (fun w51 hXw51 => ?_))
  have hB := hB.trans hXw51
  have ho5 := ho5.up hXw51
  have ho6 := ho6.up hXw51
  have ho7 := ho7.up hXw51
  have hb9 := hb9.up hXw51
  have ho14 := ho14.up hXw51
  have ho15 := ho15.up hXw51
  have ho16 := ho16.up hXw51
  have hb18 := hb18.up hXw51
  have ho21 := ho21.up hXw51
  have ho23 := ho23.up hXw51
  have ho24 := ho24.up hXw51
  have ho25 := ho25.up hXw51
  have ho26 := ho26.up hXw51
  have ho27 := ho27.up hXw51
  have ho28 := ho28.up hXw51
  have ho29 := ho29.up hXw51
  have ho30 := ho30.up hXw51
  have hb38 := hb38.up hXw51
  have ho39 := ho39.up hXw51
  have ho40 := ho40.up hXw51
  have ho41 := ho41.up hXw51
  have hb42 := hb42.up hXw51
  have ho43 := ho43.up hXw51
  have ho44 := ho44.up hXw51
  have ho45 := ho45.up hXw51
  have hb52 := hb52.up hXw51
  have ho53 := ho53.up hXw51
  have ho54 := ho54.up hXw51
  have ho55 := ho55.up hXw51
  have hb63 := hb63.up hXw51
  have ho64 := ho64.up hXw51
  have ho65 := ho65.up hXw51
  refine WL.mv rfl rfl ?_
  refine WL.pure rfl rfl rfl (PV.extract rfl rfl) ?_
  refine WL.pure rfl rfl rfl (PV.extract rfl rfl) ?_
  refine WL.asg rfl rfl ?_
  refine WL.asg rfl rfl ?_
  refine WL.nilS ?_
  refine CW.seq ?_
  refine CW.reg ?_
  refine WL.mv rfl rfl ?_
  refine WL.mv rfl rfl ?_
  refine WL.pureG rfl rfl rfl rfl rfl (PV.move rfl) ?_
  refine WL.pure rfl rfl rfl (PV.pickT rfl rfl) ?_
  refine WL.asg rfl rfl ?_
  refine WL.nilS ?_
  refine CW.ret ?_
  refine RQ.r1 rfl ?_
  refine ⟨?_, hB⟩
  first | rfl | exact congrArg Value.bool hr22

end Go.Proofs.Ythemmoceomdccaa
