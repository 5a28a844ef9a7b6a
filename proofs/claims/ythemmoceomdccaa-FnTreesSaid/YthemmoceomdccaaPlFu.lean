/- Plain laws on trees: leaves, depth, mirror, words that have trees, machines of pairs; no program. No condition. -/
import Derived.Test.YthemmoceomdccaaPlCl
namespace Go.WX
open Go

/-! ### Leaves -/
def lvT : Tre → List Int
  | .leaf x => [x]
  | .node a b => lvT a ++ lvT b
theorem lv_pos : ∀ t : Tre, 1 ≤ (lvT t).length
  | .leaf _ => by simp [lvT]
  | .node a b => by have := lv_pos a; simp only [lvT, List.length_append]; omega
theorem flt_len : ∀ t : Tre, (flatT t).length + 1 = 2 * (lvT t).length
  | .leaf _ => by simp [flatT, lvT]
  | .node a b => by
    have h1 := flt_len a; have h2 := flt_len b
    simp only [flatT, lvT, List.length_cons, List.length_append]; omega
theorem leavesL_app (xs ys : List Int) : leavesL (xs ++ ys) = leavesL xs ++ leavesL ys := by simp [leavesL, List.filter_append]
theorem leaves_flat {L : Int} : ∀ t : Tre, okTr L t → leavesL (flatT t) = lvT t
  | .leaf x, h => by
    have h0 : 0 ≤ x ∧ x ≤ L - 1 := h
    simp [flatT, leavesL, lvT, h0.1]
  | .node a b, h => by
    have e : leavesL (flatT (.node a b)) = leavesL (flatT a ++ flatT b) := by
      simp only [flatT, leavesL]; rw [List.filter_cons_of_neg (by decide)]
    rw [e, leavesL_app, leaves_flat a h.1, leaves_flat b h.2]; rfl
theorem leavesT_y {t : Tre} (h : okTr 4 t) (hl : (flatT t).length ≤ 23) : leavesT (flatT t) = lvT t := by
  rw [leavesT, if_pos (of_tree h hl), leaves_flat t h]
theorem deep_lv : ∀ t : Tre, deepT t + 1 ≤ ((lvT t).length : Int)
  | .leaf _ => by simp [deepT, lvT]
  | .node a b => by
    have h1 := deep_lv a; have h2 := deep_lv b
    have h3 := deep_rng a; have h4 := deep_rng b
    simp only [deepT, lvT, List.length_append]; omega
theorem mir_mir : ∀ t : Tre, mirT (mirT t) = t
  | .leaf _ => rfl
  | .node a b => by rw [mirT, mirT, mir_mir a, mir_mir b]
theorem mir_lv : ∀ t : Tre, lvT (mirT t) = (lvT t).reverse
  | .leaf _ => rfl
  | .node a b => by rw [mirT, lvT, lvT, mir_lv a, mir_lv b, List.reverse_append]
theorem mir_deep : ∀ t : Tre, deepT (mirT t) = deepT t
  | .leaf _ => rfl
  | .node a b => by rw [mirT, deepT, deepT, mir_deep a, mir_deep b]; omega
theorem mir_ok {L : Int} : ∀ t : Tre, okTr L t → okTr L (mirT t)
  | .leaf _, h => h
  | .node a b, h => ⟨mir_ok b h.2, mir_ok a h.1⟩
theorem lv_in {L : Int} : ∀ t : Tre, okTr L t → ∀ x ∈ lvT t, 0 ≤ x ∧ x ≤ L - 1
  | .leaf y, h, x, hx => by simp [lvT] at hx; subst hx; exact h
  | .node a b, h, x, hx => by
    rw [lvT] at hx
    rcases List.mem_append.1 hx with hx | hx
    · exact lv_in a h.1 x hx
    · exact lv_in b h.2 x hx
theorem lv_word {L : Int} (hL : 1 ≤ L ∧ L ≤ 4) {t : Tre} (h : okTr L t) (hl : (flatT t).length ≤ 23) : isWordB (lvT t) L = true := by
  have h1 := flt_len t
  simp only [isWordB, wordB, Bool.and_eq_true, decide_eq_true_eq]
  refine ⟨hL, by omega, ?_⟩
  unfold allIn
  rw [List.all_eq_true]
  exact fun x hx => decide_eq_true (lv_in t h x hx)
/-- A tree is had by the letters of its leaves. -/
theorem der_of {S : Int} {lf nx : List Int} : ∀ (t : Tre) (p q : List Int), Der S lf nx (p ++ (lvT t ++ q)) p.length (p.length + (lvT t).length) (stT S lf nx t)
  | .leaf x, p, q => by
    have h := Der.leaf (S := S) (lf := lf) (nx := nx) (wd := p ++ (lvT (.leaf x) ++ q)) p.length (by simp [lvT])
    have e : (p ++ (lvT (.leaf x) ++ q)).getD p.length 0 = x := by
      rw [List.getD_eq_getElem?_getD, List.getElem?_append_right (Nat.le_refl _)]; simp [lvT]
    rw [e] at h
    exact h
  | .node a b, p, q => by
    have h1 := der_of (S := S) (lf := lf) (nx := nx) a p (lvT b ++ q)
    have h2 := der_of (S := S) (lf := lf) (nx := nx) b (p ++ lvT a) q
    have e : p ++ lvT a ++ (lvT b ++ q) = p ++ (lvT (.node a b) ++ q) := by simp [lvT]
    have e1 : p ++ (lvT a ++ (lvT b ++ q)) = p ++ (lvT (.node a b) ++ q) := by simp [lvT]
    rw [e, List.length_append] at h2
    rw [e1] at h1
    have h3 := Der.node _ _ _ _ _ h1 h2
    have e3 : p.length + (lvT a).length + (lvT b).length = p.length + (lvT (.node a b)).length := by simp [lvT]; omega
    rw [e3] at h3
    exact h3
theorem has_of {S : Int} {lf nx : List Int} {en : List Bool} {t : Tre} (h0 : 0 ≤ stT S lf nx t) (h : en.getD (stT S lf nx t).toNat false = true) : hasT S lf nx (lvT t) en = true := by
  have h1 := der_of (S := S) (lf := lf) (nx := nx) t [] []
  simp only [List.nil_append, List.append_nil, List.length_nil, Nat.zero_add] at h1
  have hlt : (stT S lf nx t).toNat < en.length := by
    rcases Nat.lt_or_ge (stT S lf nx t).toNat en.length with h2 | h2
    · exact h2
    · rw [List.getD_eq_getElem?_getD, List.getElem?_eq_none h2] at h; cases h
  exact hasT_yes hlt h (by rw [Int.toNat_of_nonneg h0]; exact h1)

/-! ### Pairs of machines -/
section
variable {a0 y0 L : Int} {la na lb nb : List Int} {ea eb : List Bool}
theorem mapR_get {α : Type} {f : Nat → α} {m j : Nat} {d : α} (h : j < m) : (mapR f m).getD j d = f j := by
  simp [mapR, List.getD_eq_getElem?_getD, h]
theorem rowsM_len2 {m : Nat} {f : Nat → Nat → Int} : ∀ i, (rowsM m f i).length = i * m
  | 0 => by simp [rowsM]
  | i + 1 => by
    have := rowsM_len2 (m := m) (f := f) i
    rw [← rowsM_succ (i := i) rfl, List.length_append, this, mapR_len, Nat.succ_mul]
theorem rowsM_get {m : Nat} {f : Nat → Nat → Int} {i j : Nat} (hj : j < m) : ∀ n, i < n → (rowsM m f n).getD (i * m + j) 0 = f i j
  | 0, h => absurd h (Nat.not_lt_zero _)
  | n + 1, h => by
    rw [← rowsM_succ (i := n) rfl]
    have hl := rowsM_len2 (m := m) (f := f) n
    by_cases e : i < n
    · have h1 : (i + 1) * m ≤ n * m := Nat.mul_le_mul_right _ e
      rw [Nat.succ_mul] at h1
      rw [List.getD_eq_getElem?_getD, List.getElem?_append_left (by omega), ← List.getD_eq_getElem?_getD]
      exact rowsM_get hj n e
    · obtain rfl : i = n := by omega
      rw [List.getD_eq_getElem?_getD, List.getElem?_append_right (by omega), hl, show i * m + j - i * m = j by omega, ← List.getD_eq_getElem?_getD, mapR_get hj]
theorem pr_div {p q n : Int} (hp : 0 ≤ p) (hq : 0 ≤ q ∧ q < n) : (p * n + q).tdiv n = p ∧ (p * n + q).tmod n = q := by
  have hn : 0 ≤ p * n := Int.mul_nonneg hp (by omega)
  rw [Int.tdiv_eq_ediv_of_nonneg (by omega), Int.tmod_eq_emod_of_nonneg (by omega), Int.add_comm, Int.add_mul_ediv_right _ _ (by omega), Int.add_mul_emod_self_right, Int.ediv_eq_zero_of_lt hq.1 hq.2, Int.emod_eq_of_lt hq.1 hq.2]
  omega
theorem pr_rng {p q a n : Int} (hp : 0 ≤ p ∧ p ≤ a - 1) (hq : 0 ≤ q ∧ q ≤ n - 1) : 0 ≤ p * n + q ∧ p * n + q ≤ a * n - 1 := by
  have h1 : 0 ≤ p * n := Int.mul_nonneg hp.1 (by omega)
  have h2 : (p + 1) * n ≤ a * n := Int.mul_le_mul_of_nonneg_right (by omega) (by omega)
  rw [Int.add_mul] at h2
  omega
theorem meet_st (ta : TV a0 L la na) (tb : TV y0 L lb nb) (h16 : a0 * y0 ≤ 16) : ∀ t : Tre, okTr L t →
    stT (a0 * y0) (mapR (leafM y0 la lb) L.toNat) (rowsM (a0 * y0).toNat (nextM a0 y0 na nb) (a0 * y0).toNat) t = stT a0 la na t * y0 + stT y0 lb nb t
  | .leaf x, h => by
    have h0 : 0 ≤ x ∧ x ≤ L - 1 := h
    show (mapR (leafM y0 la lb) L.toNat).getD x.toNat 0 = la.getD x.toNat 0 * y0 + lb.getD x.toNat 0
    rw [mapR_get (by omega), leafM, Int.toNat_natCast]
  | .node a b, h => by
    have ia := meet_st ta tb h16 a h.1
    have ib := meet_st ta tb h16 b h.2
    have pa := st_rng ta.s ta.ll ta.nl ta.li ta.ni a h.1; have pb := st_rng ta.s ta.ll ta.nl ta.li ta.ni b h.2
    have qa := st_rng tb.s tb.ll tb.nl tb.li tb.ni a h.1; have qb := st_rng tb.s tb.ll tb.nl tb.li tb.ni b h.2
    have ra := pr_rng pa qa; have rb := pr_rng pb qb
    have da := pr_div (n := y0) pa.1 (q := stT y0 lb nb a) (by omega)
    have db := pr_div (n := y0) pb.1 (q := stT y0 lb nb b) (by omega)
    show (rowsM (a0 * y0).toNat (nextM a0 y0 na nb) (a0 * y0).toNat).getD (stT _ _ _ a * (a0 * y0) + stT _ _ _ b).toNat 0 = na.getD (stT a0 la na a * a0 + stT a0 la na b).toNat 0 * y0 + nb.getD (stT y0 lb nb a * y0 + stT y0 lb nb b).toNat 0
    rw [ia, ib]
    generalize hP : stT a0 la na a * y0 + stT y0 lb nb a = P at *
    generalize hQ : stT a0 la na b * y0 + stT y0 lb nb b = Q at *
    generalize hm : (a0 * y0).toNat = m at *
    have hm2 : a0 * y0 = (m : Int) := by omega
    have e1 : (P * (a0 * y0) + Q).toNat = P.toNat * m + Q.toNat := by
      rw [hm2]
      have e2 : P * (m : Int) + Q = ((P.toNat * m + Q.toNat : Nat) : Int) := by push_cast; rw [Int.toNat_of_nonneg ra.1, Int.toNat_of_nonneg rb.1]
      rw [e2, Int.toNat_natCast]
    rw [e1, rowsM_get (by omega) _ (by omega), nextM, Int.toNat_of_nonneg ra.1, Int.toNat_of_nonneg rb.1, da.1, da.2, db.1, db.2]
theorem meet_en (ha : (ea.length : Int) = a0) (hb : (eb.length : Int) = y0) {p q : Int} (hp : 0 ≤ p ∧ p ≤ a0 - 1) (hq : 0 ≤ q ∧ q ≤ y0 - 1) :
    (mapR (endM y0 ea eb) (a0 * y0).toNat).getD (p * y0 + q).toNat false = (ea.getD p.toNat false && eb.getD q.toNat false) := by
  have hr := pr_rng hp hq
  have hd := pr_div (n := y0) hp.1 (q := q) (by omega)
  rw [mapR_get (by omega), endM, Int.toNat_of_nonneg hr.1, hd.1, hd.2]
theorem allIn_of {xs : List Int} {lo hi : Int} (h : ∀ x ∈ xs, lo ≤ x ∧ x ≤ hi) : allIn xs lo hi = true := by
  unfold allIn; rw [List.all_eq_true]; exact fun x hx => decide_eq_true (h x hx)
theorem meet_tv (ta : TV a0 L la na) (tb : TV y0 L lb nb) (h16 : a0 * y0 ≤ 16) : TV (a0 * y0) L (mapR (leafM y0 la lb) L.toNat) (rowsM (a0 * y0).toNat (nextM a0 y0 na nb) (a0 * y0).toNat) := by
  have hs := ta.s; have hy := tb.s; have hL := ta.l
  have h1 : 1 * 1 ≤ a0 * y0 := Int.mul_le_mul hs.1 hy.1 (by omega) (by omega)
  refine ⟨⟨by omega, h16⟩, hL, by rw [mapR_len]; omega, ?_, allIn_of fun x hx => ?_, allIn_of fun x hx => ?_⟩
  · rw [rowsM_len2]; push_cast; rw [Int.toNat_of_nonneg (by omega)]
  · obtain ⟨k, hk, rfl⟩ := List.mem_map.1 hx
    have hk := List.mem_range.1 hk
    rw [leafM, Int.toNat_natCast]
    exact pr_rng (allIn_get ta.li (by have := ta.ll; omega)) (allIn_get tb.li (by have := tb.ll; omega))
  · obtain ⟨i, hi, hx⟩ := List.mem_flatMap.1 hx
    obtain ⟨j, hj, rfl⟩ := List.mem_map.1 hx
    have hi := List.mem_range.1 hi; have hj := List.mem_range.1 hj
    have di := dm (s := a0) (n := y0) (i := (i : Int)) (by omega) (by omega)
    have dj := dm (s := a0) (n := y0) (i := (j : Int)) (by omega) (by omega)
    rw [nextM]
    exact pr_rng (ta.join (by omega) (by omega)) (tb.join (by omega) (by omega))
end
end Go.WX
