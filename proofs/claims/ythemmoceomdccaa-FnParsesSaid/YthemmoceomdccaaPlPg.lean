/- Plain laws on drawn grammars and machines; no program. No condition. -/
import Derived.Test.YthemmoceomdccaaPlPd
import Derived.Test.YthemmoceomdccaaPlPf
import Derived.Test.YthemmoceomdccaaPlY
namespace Go.WX
open Go

theorem okR_put {S L : Int} {rs : List R4} {r : R4} (h : ∀ i : Nat, i < rs.length → okR S L (rs.getD i (0, 0, 0, 0))) (hr : okR S L r) : ∀ i : Nat, i < (rs ++ [r]).length → okR S L ((rs ++ [r]).getD i (0, 0, 0, 0)) := fun i hi => by
  rw [List.getD_eq_getElem?_getD]
  by_cases h1 : i < rs.length
  · rw [List.getElem?_append_left h1, ← List.getD_eq_getElem?_getD]; exact h i h1
  · rw [List.length_append, List.length_singleton] at hi
    have e : i = rs.length := by omega
    subst e
    rw [List.getElem?_append_right (Nat.le_refl _), Nat.sub_self]; exact hr
theorem gram_dr {S L : Int} {rs : List R4} (hS : 1 ≤ S ∧ S ≤ 3) (hL : 1 ≤ L ∧ L ≤ 2) (h : (rs.length : Int) ≤ 12 ∧ ∀ i : Nat, i < rs.length → okR S L (rs.getD i (0, 0, 0, 0))) : gramV S L rs :=
  ⟨by omega, by omega, by omega, h.2⟩
theorem sl8 {s l : Int} (hs : 1 ≤ s ∧ s ≤ 4) (hl : 1 ≤ l ∧ l ≤ 2) : 1 ≤ s * l ∧ s * l ≤ 8 := by
  have h : l = 1 ∨ l = 2 := by omega
  rcases h with rfl | rfl <;> omega
theorem plain_dr {S L : Int} {x2 : List Int} {x3 : List Bool} (hS : 1 ≤ S ∧ S ≤ 4) (hL : 1 ≤ L ∧ L ≤ 2) (h : (x2.length : Int) = S * L ∧ (x3.length : Int) = S) (hi : ∀ y ∈ x2, 0 ≤ y ∧ y ≤ S - 1) : plainB S L x2 x3 = true := by
  refine decide_eq_true ⟨by omega, by omega, h.1, h.2, ?_⟩
  unfold allIn
  rw [List.all_eq_true]
  intro x hx
  have := hi x hx
  simp only [decide_eq_true_eq]; omega
theorem runL_take {l : Int} {nx xs : List Int} {k : Nat} (h : k < xs.length) : runL l nx (xs.take (k + 1)) 0 = nx.getD (runL l nx (xs.take k) 0 * l + xs.getD k 0).toNat 0 := by
  rw [take_succ h 0, runL_app]
theorem word_lt {xs : List Int} {l : Int} (h : isWordB xs l = true) : ∀ x ∈ xs, 0 ≤ x ∧ x < l := fun x hx => by
  simp only [isWordB, wordB, Bool.and_eq_true] at h
  have h2 := h.2.2
  unfold allIn at h2
  rw [List.all_eq_true] at h2
  have := h2 x hx
  simp only [decide_eq_true_eq] at this
  omega
theorem sumW_y {en : List Bool} {cs : List Int} {k : Nat} (h : en.getD k false = true) : IntKind.i64.wrap (sumW en cs k + cs.getD k 0) = sumW en cs (k + 1) := by
  show _ = (if en.getD k false = true then IntKind.i64.wrap (sumW en cs k + cs.getD k 0) else sumW en cs k)
  rw [if_pos h]
theorem sumW_n {en : List Bool} {cs : List Int} {k : Nat} (h : en.getD k false = false) : sumW en cs k = sumW en cs (k + 1) := by
  show _ = (if en.getD k false = true then IntKind.i64.wrap (sumW en cs k + cs.getD k 0) else sumW en cs k)
  rw [if_neg (by rw [h]; decide)]
theorem has_not {xs : List Int} {k : Nat} {x : Int} (h : xs.length ≤ k) (g : ∀ j : Nat, j < k → xs.getD j 0 ≠ x) : ¬ x ∈ xs := fun hx => by
  obtain ⟨j, hj, rfl⟩ := List.mem_iff_getElem.1 hx
  refine g j (by omega) ?_
  rw [List.getD_eq_getElem?_getD, List.getElem?_eq_getElem hj]; rfl

/-! ### What the law asks -/
section
variable {n l m l2 : Int} {rs rb : List R4} {ws T : List Int}
theorem word_dr {N L : Int} (hN : 1 ≤ N ∧ N ≤ 12) (hL : 1 ≤ L ∧ L ≤ 2) (h : (ws.length : Int) = N) (hi : ∀ x ∈ ws, 0 ≤ x ∧ x ≤ L - 1) : isWordB ws L = true := by
  simp only [isWordB, wordB, Bool.and_eq_true, decide_eq_true_eq]
  refine ⟨by omega, by omega, ?_⟩
  unfold allIn
  rw [List.all_eq_true]
  intro x hx
  have := hi x hx
  simp only [decide_eq_true_eq]; omega
theorem can_of (g : gramV n l rs) (h : isWordB ws l = true) (h1 : 1 ≤ ws.length) : canB n l rs ws = true := by
  rw [canB_e1 g h]; exact decide_eq_true h1
theorem canP_dec (h : canB n l rs ws = true) : canP n l rs ws = decide (0 ≤ leastC rs ws 0 ws.length 0) := by
  have g := (canB_y h).1
  by_cases e : ∃ c, DC rs ws 0 ws.length 0 c
  · rw [← canP_y h e, decide_eq_true ((leastC_iff g).2 e)]
  · rw [← canP_n2 e, decide_eq_false (fun h2 => e ((leastC_iff g).1 h2))]
theorem cnt_iff (h : canB n l rs ws = true) : 0 < cnt rs ws 0 ws.length 0 ↔ 0 ≤ leastC rs ws 0 ws.length 0 := by
  have c := canB_y h
  rw [leastC_iff c.1, cnt_pos _ (Nat.le_refl _) (by have := c.2; omega) (Nat.le_refl _)]
/-- What the tree that is told keeps. -/
structure TrK (rs : List R4) (ws T : List Int) : Prop where
  s : sumK rs T = leastC rs ws 0 ws.length 0
  lv : lvK rs T = ws
  rng : ∀ x ∈ T, 0 ≤ x ∧ x < rs.length
  hd : (rl rs (T.getD 0 0).toNat).1 = 0
  ln : T.length + 1 = 2 * ws.length
theorem trK_of (g : gramV n l rs) (h : 0 ≤ leastC rs ws 0 ws.length 0) : TrK rs ws (treeL rs ws 0 ws.length 0) := by
  obtain ⟨a, b, c, d, e⟩ := tree_tells g ((leastC_iff g).1 h)
  exact ⟨a, b, c, d, e⟩
theorem sumK_rng (g : gramV n l rs) : ∀ {xs : List Int}, (∀ x ∈ xs, 0 ≤ x ∧ x < rs.length) → 0 ≤ sumK rs xs ∧ sumK rs xs ≤ 1000 * (xs.length : Int)
  | [], _ => by simp [sumK]
  | x :: r, h => by
    have ih := sumK_rng g fun y hy => h y (List.mem_cons_of_mem _ hy)
    have hx := h x List.mem_cons_self
    have o := (okL g (k := x.toNat) (by omega)).2.1
    rw [sumK, List.length_cons]; omega
theorem lvK_one (x : Int) : lvK rs [x] = if (rl rs x.toNat).2.2.1 < 0 then [(rl rs x.toNat).2.1] else [] := by
  unfold lvK
  by_cases h : (rl rs x.toNat).2.2.1 < 0
  · rw [List.filter_cons_of_pos (by simpa using h), if_pos h]; rfl
  · rw [List.filter_cons_of_neg (by simpa using h), if_neg h]; rfl
theorem TrK.at (h : TrK rs ws T) (g : gramV n l rs) {k : Nat} (hk : k < T.length) : (0 ≤ T.getD k 0 ∧ T.getD k 0 < rs.length) ∧ (0 ≤ sumK rs (T.take k) ∧ sumK rs (T.take k) ≤ 1000 * (k : Int)) ∧ (0 ≤ (rs.getD (T.getD k 0).toNat (0, 0, 0, 0)).2.2.2 ∧ (rs.getD (T.getD k 0).toNat (0, 0, 0, 0)).2.2.2 ≤ 1000) ∧
    sumK rs (T.take (k + 1)) = sumK rs (T.take k) + (rs.getD (T.getD k 0).toNat (0, 0, 0, 0)).2.2.2 ∧
    ((rs.getD (T.getD k 0).toNat (0, 0, 0, 0)).2.2.1 < 0 → (lvK rs (T.take k)).length < ws.length ∧ (rs.getD (T.getD k 0).toNat (0, 0, 0, 0)).2.1 = ws.getD (lvK rs (T.take k)).length 0 ∧ (lvK rs (T.take (k + 1))).length = (lvK rs (T.take k)).length + 1) ∧
    (¬ (rs.getD (T.getD k 0).toNat (0, 0, 0, 0)).2.2.1 < 0 → (lvK rs (T.take (k + 1))).length = (lvK rs (T.take k)).length) := by
  have hm : T.getD k 0 ∈ T := by
    rw [List.getD_eq_getElem?_getD, List.getElem?_eq_getElem hk]; exact List.getElem_mem hk
  have hr := h.rng _ hm
  have hs := sumK_rng g (xs := T.take k) fun x hx => h.rng x (List.mem_of_mem_take hx)
  have o := (okL g (k := (T.getD k 0).toNat) (by omega)).2.1
  have e : T.take (k + 1) = T.take k ++ [T.getD k 0] := take_succ hk 0
  have e2 : lvK rs (T.take (k + 1)) = lvK rs (T.take k) ++ lvK rs [T.getD k 0] := by rw [e, lvK_app]
  refine ⟨hr, ⟨hs.1, by rw [List.length_take] at hs; omega⟩, o, by rw [e, sumK_app]; simp [sumK, rl], fun h2 => ?_, fun h2 => ?_⟩
  · change (rl rs (T.getD k 0).toNat).2.2.1 < 0 at h2
    rw [lvK_one, if_pos h2] at e2
    have e3 : lvK rs T = lvK rs (T.take (k + 1)) ++ lvK rs (T.drop (k + 1)) := by rw [← lvK_app, List.take_append_drop]
    rw [h.lv, e2, List.append_assoc] at e3
    have hl := congrArg List.length e3
    rw [List.length_append, List.length_append, List.length_singleton] at hl
    refine ⟨by omega, ?_, by rw [e2, List.length_append]; rfl⟩
    conv => rhs; rw [e3, List.getD_eq_getElem?_getD, List.getElem?_append_right (Nat.le_refl _), Nat.sub_self]
    rfl
  · change ¬ (rl rs (T.getD k 0).toNat).2.2.1 < 0 at h2
    rw [lvK_one, if_neg h2, List.append_nil] at e2
    rw [e2]
theorem TrK.end (h : TrK rs ws T) {k : Nat} (hk : T.length ≤ k) : sumK rs (T.take k) = leastC rs ws 0 ws.length 0 ∧ (lvK rs (T.take k)).length = ws.length ∧ (T.length : Int) = 2 * (ws.length : Int) - 1 := by
  rw [List.take_of_length_le hk, h.lv]
  exact ⟨h.s, rfl, by have := h.ln; omega⟩
theorem either_v (h : eithB n l rs m l2 rb = true) : (gramV (onI (eithB n l rs m l2 rb) (1 + n + m)) (onI (eithB n l rs m l2 rb) l) (onT (eithB n l rs m l2 rb) (eithL n rs rb)) ∧ onI (eithB n l rs m l2 rb) l = l) ∧
    ∀ ws : List Int, leastC (onT (eithB n l rs m l2 rb) (eithL n rs rb)) ws 0 ws.length 0 = lessR (leastC rs ws 0 ws.length 0) (leastC rb ws 0 ws.length 0) := by
  rw [onI_yes h, onI_yes h, onT_yes h]
  simp only [eithB, gramB, Bool.and_eq_true, decide_eq_true_eq] at h
  exact ⟨⟨h.2, rfl⟩, fun ws => leastC_either h.1.1.1 h.1.1.2⟩
theorem cheap_v (h : cheapB n l rs = true) : canB n l rs (onT (cheapB n l rs) (wordW rs (allC n rs).1 0)) = true ∧ leastC rs (onT (cheapB n l rs) (wordW rs (allC n rs).1 0)) 0 (onT (cheapB n l rs) (wordW rs (allC n rs).1 0)).length 0 = onI (cheapB n l rs) ((allC n rs).2.getD (0 : Int).toNat 0) ∧ onI (cheapB n l rs) ((allC n rs).2.getD (0 : Int).toNat 0) = (allC n rs).2.getD (0 : Int).toNat 0 := by
  rw [onI_yes h, onT_yes h]
  have h2 := of_decide_eq_true h
  have h3 := cheap_tells h2.1 h2.2.1 h2.2.2
  exact ⟨h3.2, h3.1, rfl⟩
theorem least_len (g : gramV n l rs) : ((allC n rs).2.length : Int) = n := by
  obtain ⟨_, _, s, I⟩ := allC_end g
  rw [I.l2]; have := g.1; omega
theorem least_le (g : gramV n l rs) (h : 0 ≤ leastC rs ws 0 ws.length 0) : 0 ≤ (allC n rs).2.getD 0 0 ∧ (allC n rs).2.getD 0 0 ≤ leastC rs ws 0 ws.length 0 :=
  (leastC_spec g ((leastC_iff g).1 h)).1.least g
theorem useful_len (g : gramV n l rs) : 0 < ((usefL n rs).length : Int) ↔ 0 ≤ (allC n rs).2.getD 0 0 := by
  have := useful_any g
  rw [← List.length_pos_iff] at this
  exact Int.natCast_pos.trans this
theorem useful_in (g : gramV n l rs) (h : 0 ≤ leastC rs ws 0 ws.length 0) {k : Nat} (hk : k < (treeL rs ws 0 ws.length 0).length) : (treeL rs ws 0 ws.length 0).getD k 0 ∈ usefL n rs := by
  refine tree_useful g ((leastC_iff g).1 h) _ ?_
  rw [List.getD_eq_getElem?_getD, List.getElem?_eq_getElem hk]; exact List.getElem_mem hk
theorem okG_small {s : Int} {nx : List Int} {en : List Bool} (h : plainB s l nx en = true) (h4 : s ≤ 4) (h2 : l ≤ 2) : okG s l nx en = true :=
  okG_yes (of_decide_eq_true h) (by omega) (madeG_v h h4 h2)
theorem sh_two {wk : Int} (h : canB n l rs ws = true) (hk : 1 ≤ wk ∧ wk ≤ 8) : psB n l rs [ws, ws] wk = true :=
  (ps_y (canB_y h).1 (by simp) hk fun j hj => by
    have : j = 0 ∨ j = 1 := by simp at hj; omega
    rcases this with rfl | rfl <;> exact h).symm
theorem made_dec {s n2 l3 : Int} {nx : List Int} {en : List Bool} (g : gramV n2 l3 (allG s l nx en)) (h : plainB s l nx en = true) (hw : isWordB ws l = true) (h1 : 1 ≤ ws.length) : decide (leastC (allG s l nx en) ws 0 ws.length 0 = 0) = en.getD (runL l nx ws 0).toNat false := by
  have hi : allIn ws 0 (l - 1) = true := by
    simp only [isWordB, wordB, Bool.and_eq_true] at hw
    exact hw.2.2
  have := leastC_made g h hi h1
  by_cases e : en.getD (runL l nx ws 0).toNat false = true
  · rw [e]; exact decide_eq_true (this.2 e)
  · rw [Bool.not_eq_true] at e
    rw [e]
    exact decide_eq_false fun h2 => by rw [this.1 h2] at e; cases e
theorem tri_bd {k : Nat} (h : 1 ≤ k ∧ k ≤ 12) : 0 ≤ (k : Int) * ((k : Int) + 1) ∧ (k : Int) * ((k : Int) + 1) ≤ 156 ∧ (k : Int) ≤ ((k : Int) * ((k : Int) + 1)).tdiv 2 := by
  have h1 : (k : Int) * 2 ≤ (k : Int) * ((k : Int) + 1) := Int.mul_le_mul_of_nonneg_left (by omega) (by omega)
  have h2 : (k : Int) * ((k : Int) + 1) ≤ 12 * 13 := Int.mul_le_mul (by omega) (by omega) (by omega) (by omega)
  rw [Int.tdiv_eq_ediv_of_nonneg (by omega)]
  omega
end
end Go.WX
