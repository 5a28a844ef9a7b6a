/- Plain laws on useful rules and trees; no program. No condition. -/
import Derived.Test.YthemmoceomdccaaPlPc
import Derived.Test.YthemmoceomdccaaPlU
namespace Go.WX
open Go

def subU (us vs : List Bool) : Prop := ∀ q : Nat, us.getD q false = true → vs.getD q false = true
theorem subU.trans {us vs ws : List Bool} (h : subU us vs) (g : subU vs ws) : subU us ws := fun q hq => g q (h q hq)
def cntU (us : List Bool) : Nat := (us.filter id).length
theorem cntU_le (us : List Bool) : cntU us ≤ us.length := List.length_filter_le _ _
theorem cntU_sub : ∀ {us vs : List Bool}, us.length = vs.length → subU us vs → cntU us ≤ cntU vs ∧ (cntU us = cntU vs → us = vs)
  | [], [], _, _ => ⟨Nat.le_refl _, fun _ => rfl⟩
  | [], b :: vs, h, _ => by simp at h
  | a :: us, [], h, _ => by simp at h
  | a :: us, b :: vs, h, hs => by
    have ih := cntU_sub (us := us) (vs := vs) (by simpa using h) fun q hq => by
      have := hs (q + 1) (by simpa using hq)
      simpa using this
    have h0 : a = true → b = true := fun ha => by have := hs 0 (by simpa using ha); simpa using this
    cases a with
    | true =>
      rw [h0 rfl]
      simp only [cntU, List.filter_cons_of_pos (p := id) (a := true) rfl, List.length_cons]
      exact ⟨Nat.succ_le_succ ih.1, fun h => by rw [ih.2 (Nat.succ.inj h)]⟩
    | false =>
      simp only [cntU]
      rw [List.filter_cons_of_neg (p := id) (a := false) (by decide)]
      cases b with
      | true =>
        rw [List.filter_cons_of_pos (p := id) (a := true) rfl, List.length_cons]
        have h1 : (us.filter id).length ≤ (vs.filter id).length := ih.1
        exact ⟨by omega, fun h => by omega⟩
      | false =>
        rw [List.filter_cons_of_neg (p := id) (a := false) (by decide)]
        exact ⟨ih.1, fun h => by rw [ih.2 h]⟩
theorem cntU_pos {us : List Bool} {q : Nat} (h : us.getD q false = true) : 1 ≤ cntU us := by
  unfold cntU
  have hq : q < us.length := Classical.byContradiction fun hq => by
    rw [List.getD_eq_getElem?_getD, List.getElem?_eq_none (by omega)] at h; cases h
  have hm : us[q] ∈ us.filter id := List.mem_filter.2 ⟨List.getElem_mem hq, by
    rw [List.getD_eq_getElem?_getD, List.getElem?_eq_getElem hq] at h; exact h⟩
  exact List.length_pos_of_mem hm
theorem set_true {us : List Bool} (i : Nat) : subU us (us.set i true) := fun q hq => by
  by_cases e : i = q
  · subst e
    have hq2 : i < us.length := Classical.byContradiction fun h => by
      rw [List.getD_eq_getElem?_getD, List.getElem?_eq_none (by omega)] at hq; cases hq
    rw [List.getD_eq_getElem?_getD, List.getElem?_set_self hq2]; rfl
  · rw [List.getD_eq_getElem?_getD, List.getElem?_set_ne e, ← List.getD_eq_getElem?_getD]; exact hq
theorem set_it {us : List Bool} {i : Nat} (h : i < us.length) : (us.set i true).getD i false = true := by
  rw [List.getD_eq_getElem?_getD, List.getElem?_set_self h]; rfl
theorem set_of {us : List Bool} {i q : Nat} (h : (us.set i true).getD q false = true) : q = i ∨ us.getD q false = true := by
  by_cases e : i = q
  · exact .inl e.symm
  · rw [List.getD_eq_getElem?_getD, List.getElem?_set_ne e, ← List.getD_eq_getElem?_getD] at h; exact .inr h
section
variable {co : List Int} {rs : List R4} {n l : Int}
theorem stepU_sub (r : R4) (us : List Bool) : subU us (stepU co r us) := by
  unfold stepU
  split
  · exact (set_true _).trans (set_true _)
  · exact fun q hq => hq
theorem rowU_sub (k : Nat) (us : List Bool) : ∀ d, subU (rowU co rs k us) (rowU co rs (k + d) us)
  | 0 => fun _ h => h
  | d + 1 => (rowU_sub k us d).trans (stepU_sub _ _)
theorem rowU_stable {us : List Bool} (h : rowU co rs rs.length us = us) {k : Nat} (hk : k < rs.length) (h1 : us.getD (rl rs k).1.toNat false = true) (h2 : 0 ≤ (rl rs k).2.2.1) (h3 : worksC co (rl rs k) = true)
    (h4 : (rl rs k).2.1.toNat < us.length) (h5 : (rl rs k).2.2.1.toNat < us.length) : us.getD (rl rs k).2.1.toNat false = true ∧ us.getD (rl rs k).2.2.1.toNat false = true := by
  have a1 : subU us (rowU co rs k us) := by have := rowU_sub (co := co) (rs := rs) 0 us k; rw [Nat.zero_add] at this; exact this
  have a2 : subU (rowU co rs (k + 1) us) us := by
    have := rowU_sub (co := co) (rs := rs) (k + 1) us (rs.length - (k + 1))
    rw [show k + 1 + (rs.length - (k + 1)) = rs.length by omega, h] at this; exact this
  have hl := rowU_len co rs k us
  have e : rowU co rs (k + 1) us = ((rowU co rs k us).set (rl rs k).2.1.toNat true).set (rl rs k).2.2.1.toNat true := by
    show stepU co (rl rs k) (rowU co rs k us) = _
    unfold stepU; rw [if_pos ⟨a1 _ h1, h2, h3⟩]
  rw [e] at a2
  exact ⟨a2 _ (set_true _ _ (set_it (by omega))), a2 _ (set_it (by rw [List.length_set]; omega))⟩
theorem allU_grow {m : Nat} (hm : 1 ≤ m) : ∀ t, t + 1 ≤ cntU (allU co rs m t) ∨ rowU co rs rs.length (allU co rs m t) = allU co rs m t
  | 0 => .inl (by
    show 1 ≤ cntU ((List.replicate m false).set 0 true)
    exact cntU_pos (q := 0) (set_it (by simp; omega)))
  | t + 1 => by
    have e : allU co rs m (t + 1) = rowU co rs rs.length (allU co rs m t) := rfl
    have hl := rowU_len co rs rs.length (allU co rs m t)
    rcases allU_grow hm t with h | h
    · have hs : subU (allU co rs m t) (rowU co rs rs.length (allU co rs m t)) := by
        have := rowU_sub (co := co) (rs := rs) 0 (allU co rs m t) rs.length; rw [Nat.zero_add] at this; exact this
      have hc := cntU_sub hl.symm hs
      by_cases e2 : cntU (allU co rs m t) = cntU (rowU co rs rs.length (allU co rs m t))
      · right; rw [e, ← hc.2 e2, ← hc.2 e2]
      · left; rw [e]; omega
    · right; rw [e, h, h]
theorem allU_stable {m : Nat} (hm : 1 ≤ m) : rowU co rs rs.length (allU co rs m m) = allU co rs m m := by
  rcases allU_grow (co := co) (rs := rs) hm m with h | h
  · have := cntU_le (allU co rs m m); rw [allU_len] at this; omega
  · exact h
theorem allU_sub {m : Nat} (a : Nat) : ∀ d, subU (allU co rs m a) (allU co rs m (a + d))
  | 0 => fun _ h => h
  | d + 1 => (allU_sub a d).trans (by
    have := rowU_sub (co := co) (rs := rs) 0 (allU co rs m (a + d)) rs.length; rw [Nat.zero_add] at this; exact this)
theorem allU_zero {m : Nat} (hm : 1 ≤ m) (t : Nat) : (allU co rs m t).getD 0 false = true := by
  have := allU_sub (co := co) (rs := rs) (m := m) 0 t 0 (by
    show ((List.replicate m false).set 0 true).getD 0 false = true
    exact set_it (by simp; omega))
  rwa [Nat.zero_add] at this
theorem outU_mem {us : List Bool} {k x : Nat} : (x : Int) ∈ outU co us rs k ↔ x < k ∧ us.getD (rl rs x).1.toNat false = true ∧ worksC co (rl rs x) = true := by
  unfold outU
  rw [List.mem_flatMap]
  constructor
  · rintro ⟨i, hi, hx⟩
    unfold oneU at hx
    split at hx
    · rename_i h
      rw [List.mem_singleton] at hx
      have e : x = i := by omega
      subst e
      exact ⟨List.mem_range.1 hi, h⟩
    · exact absurd hx List.not_mem_nil
  · rintro ⟨h1, h2⟩
    refine ⟨x, List.mem_range.2 h1, ?_⟩
    unfold oneU; rw [if_pos h2]; exact List.mem_singleton.2 rfl
theorem outU_ne {us : List Bool} {k : Nat} (h : outU co us rs k ≠ []) : ∃ x, x < k ∧ us.getD (rl rs x).1.toNat false = true ∧ worksC co (rl rs x) = true := by
  obtain ⟨y, hy⟩ := List.exists_mem_of_ne_nil _ h
  have hy2 := hy
  unfold outU at hy2
  rw [List.mem_flatMap] at hy2
  obtain ⟨i, hi, hx⟩ := hy2
  unfold oneU at hx
  split at hx
  · rename_i h2
    exact ⟨i, List.mem_range.1 hi, h2⟩
  · exact absurd hx List.not_mem_nil
theorem works_hav {r : R4} (h : worksC co r = true) : havC co r := fun h2 => (worksC_spec h).resolve_left (by omega)
theorem allU_of (g : gramV n l rs) {m : Nat} : ∀ t (q : Nat), (allU (allC n rs).2 rs m t).getD q false = true → q = 0 ∨ 0 ≤ (allC n rs).2.getD 0 0 := by
  intro t
  induction t with
  | zero =>
    intro q hq
    rcases set_of hq with h | h
    · exact .inl h
    · exfalso
      rw [List.getD_eq_getElem?_getD, List.getElem?_replicate] at h
      split at h <;> cases h
  | succ t ih =>
    have : ∀ k, k ≤ rs.length → ∀ q : Nat, (rowU (allC n rs).2 rs k (allU (allC n rs).2 rs m t)).getD q false = true → q = 0 ∨ 0 ≤ (allC n rs).2.getD 0 0 := by
      intro k
      induction k with
      | zero => intro _ q hq; exact ih q hq
      | succ k ihk =>
        intro hk q hq
        change (stepU (allC n rs).2 (rl rs k) (rowU (allC n rs).2 rs k (allU (allC n rs).2 rs m t))).getD q false = true at hq
        unfold stepU at hq
        split at hq
        · rename_i h
          have h3 := allC_up g (show k < rs.length by omega) (works_hav h.2.2)
          rcases ihk (by omega) _ h.1 with h4 | h4
          · rw [h4] at h3; exact .inr h3.1
          · exact .inr h4
        · exact ihk (by omega) q hq
    exact this rs.length (Nat.le_refl _)
/-- There is a useful rule just where there is a tree of the name 0. -/
theorem useful_any (g : gramV n l rs) : usefL n rs ≠ [] ↔ 0 ≤ (allC n rs).2.getD 0 0 := by
  have hn := g.1
  constructor
  · intro h
    obtain ⟨x, hx, h1, h2⟩ := outU_ne h
    have h3 := allC_up g hx (works_hav h2)
    rcases allU_of g _ _ h1 with h4 | h4
    · rw [h4] at h3; exact h3.1
    · exact h4
  · intro h
    obtain ⟨K, _, s, I⟩ := allC_end g
    have h0 : 0 ≤ (allC n rs).1.getD 0 0 := (allC_same g (by omega)).2 h
    obtain ⟨r1, r2, r3, r4⟩ := K.ru 0 (by rw [I.l1]; omega) h0
    have hm : (((allC n rs).1.getD 0 0).toNat : Int) ∈ usefL n rs := by
      unfold usefL
      refine outU_mem.2 ⟨by omega, by rw [r2]; exact allU_zero (by omega) _, worksC_yes ?_⟩
      by_cases h2 : (rl rs ((allC n rs).1.getD 0 0).toNat).2.2.1 < 0
      · exact .inl h2
      · exact .inr (r3 (by omega))
    exact List.ne_nil_of_mem hm
/-- All rules of a tree are useful. -/
theorem BT.useful (g : gramV n l rs) {wd : List Int} {i j : Nat} {a : Int} {t : List Int} (h : BT rs wd i j a t) : (allU (allC n rs).2 rs n.toNat n.toNat).getD a.toNat false = true → ∀ x ∈ t, x ∈ usefL n rs := by
  have hn := g.1
  have hl := allU_len (allC n rs).2 rs n.toNat n.toNat
  induction h with
  | leaf i j a k m c h1 h2 =>
    intro ha x hx
    rw [List.mem_singleton] at hx; subst hx
    refine outU_mem.2 ⟨h1.hk, by rw [h1.ha]; exact ha, worksC_yes (.inl h2)⟩
  | node i j a k m c l1 l2 h1 h2 h3 h4 i1 i2 =>
    intro ha x hx
    have o := okL g h1.hk
    have w : worksC (allC n rs).2 (rl rs k) = true := by
      rcases h1.hc with ⟨h5, _⟩ | ⟨_, c1, c2, d1, d2, hc⟩
      · omega
      · exact worksC_yes (.inr ⟨(d1.least g).1, (d2.least g).1⟩)
    have hst := rowU_stable (allU_stable (co := (allC n rs).2) (rs := rs) (m := n.toNat) (by omega)) h1.hk (by rw [h1.ha]; exact ha) h2 w (by rw [hl]; have := o.2.2.1 h2; omega) (by rw [hl]; have := o.2.2.1 h2; omega)
    rcases List.mem_cons.1 hx with rfl | hx
    · exact outU_mem.2 ⟨h1.hk, by rw [h1.ha]; exact ha, w⟩
    · rcases List.mem_append.1 hx with hx | hx
      · exact i1 hst.1 x hx
      · exact i2 hst.2 x hx
theorem tree_useful (g : gramV n l rs) {wd : List Int} (h : ∃ c, DC rs wd 0 wd.length 0 c) : ∀ x ∈ treeL rs wd 0 wd.length 0, x ∈ usefL n rs := by
  obtain ⟨c, d⟩ := h
  obtain ⟨t, ht⟩ := BT.ex g _ (Nat.le_refl _) d
  rw [← ht.eq]
  exact ht.useful g (allU_zero (by have := g.1; omega) _)
end
end Go.WX
