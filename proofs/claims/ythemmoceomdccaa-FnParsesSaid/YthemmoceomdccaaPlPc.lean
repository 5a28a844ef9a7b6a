/- Plain laws on least costs and cheapest words; no program. No condition. -/
import Derived.Test.YthemmoceomdccaaPlPb
import Derived.Test.YthemmoceomdccaaPlW
namespace Go.WX
open Go

/-! ### Least costs -/
section
variable {n l : Int} {rs : List R4}
theorem selC_none {co : List Int} : ∀ {k : Nat}, selC co rs k = none → ∀ q, q < k → ¬ candC co (rl rs q)
  | 0, _, q, h => by omega
  | k + 1, h, q, hq => by
    simp only [selC] at h
    split at h
    · exfalso
      cases hs : selC co rs k with
      | none => rw [hs] at h; simp [pickC] at h
      | some y =>
        obtain ⟨b, x⟩ := y
        rw [hs] at h; simp only [pickC] at h
        split at h <;> simp at h
    · rename_i hc
      by_cases e : q = k
      · subst e; exact hc
      · exact selC_none h q (by omega)
theorem selC_min {co : List Int} : ∀ {k b : Nat} {x : Int}, selC co rs k = some (b, x) → ∀ q, q < k → candC co (rl rs q) → x ≤ valC co (rl rs q)
  | 0, b, x, h, q, hq, _ => by omega
  | k + 1, b, x, h, q, hq, hc => by
    simp only [selC] at h
    split at h
    · cases hs : selC co rs k with
      | none =>
        rw [hs] at h; simp only [pickC, Option.some.injEq, Prod.mk.injEq] at h
        by_cases e : q = k
        · subst e; rw [← h.2]; exact Int.le_refl _
        · exact absurd hc (selC_none hs q (by omega))
      | some y =>
        obtain ⟨b', x'⟩ := y
        have ih := selC_min hs
        rw [hs] at h; simp only [pickC] at h
        by_cases e : q = k
        · subst e
          split at h
          · simp only [Option.some.injEq, Prod.mk.injEq] at h; rw [← h.2]; exact Int.le_refl _
          · rename_i hlt
            simp only [Option.some.injEq, Prod.mk.injEq] at h
            have e2 := h.2
            subst e2
            exact Int.not_lt.1 hlt
        · have := ih q (by omega) hc
          split at h
          · simp only [Option.some.injEq, Prod.mk.injEq] at h
            rename_i hlt
            have e2 := h.2
            subst e2
            omega
          · simp only [Option.some.injEq, Prod.mk.injEq] at h
            have e2 := h.2
            subst e2
            exact this
    · rename_i hnc
      by_cases e : q = k
      · subst e; exact absurd hc hnc
      · exact selC_min h q (by omega) hc
/-- What a rule's parts cost is told. -/
def havC (co : List Int) (r : R4) : Prop := 0 ≤ r.2.2.1 → 0 ≤ co.getD r.2.1.toNat 0 ∧ 0 ≤ co.getD r.2.2.1.toNat 0
theorem valC_nn {co : List Int} {r : R4} (h : havC co r) (hc : 0 ≤ r.2.2.2) : 0 ≤ valC co r := by
  unfold valC
  split
  · have := h (by assumption); omega
  · exact hc
/-- What Knuth's order keeps. -/
structure KnC (rs : List R4) (st : List Int × List Int) : Prop where
  up : ∀ k, k < rs.length → havC st.2 (rl rs k) → 0 ≤ st.2.getD (rl rs k).1.toNat 0 → st.2.getD (rl rs k).1.toNat 0 ≤ valC st.2 (rl rs k)
  fr : ∀ k (x : Nat), k < rs.length → candC st.2 (rl rs k) → st.2.getD x 0 ≤ valC st.2 (rl rs k)
  ru : ∀ x : Nat, x < st.1.length → 0 ≤ st.1.getD x 0 → st.1.getD x 0 < rs.length ∧ (rl rs (st.1.getD x 0).toNat).1.toNat = x ∧ havC st.2 (rl rs (st.1.getD x 0).toNat) ∧ st.2.getD x 0 = valC st.2 (rl rs (st.1.getD x 0).toNat)
theorem okL (g : gramV n l rs) {k : Nat} (h : k < rs.length) : (0 ≤ (rl rs k).1 ∧ (rl rs k).1 < n) ∧ (0 ≤ (rl rs k).2.2.2 ∧ (rl rs k).2.2.2 ≤ 1000) ∧ (0 ≤ (rl rs k).2.2.1 → (0 ≤ (rl rs k).2.1 ∧ (rl rs k).2.1 < n) ∧ (rl rs k).2.2.1 < n) ∧ ((rl rs k).2.2.1 < 0 → 0 ≤ (rl rs k).2.1 ∧ (rl rs k).2.1 < l) := by
  have h1 : okR n l (rl rs k) := g.2.2.2 k h
  unfold okR at h1
  omega
theorem KnC.zero (g : gramV n l rs) : KnC rs (givC n rs 0) := by
  have hz : ∀ q : Nat, (givC n rs 0).2.getD q 0 = -1 ∨ (givC n rs 0).2.getD q 0 = 0 := fun q => rep_getD n.toNat q
  have hz1 : ∀ q : Nat, q < n.toNat → (givC n rs 0).2.getD q 0 = -1 ∧ (givC n rs 0).1.getD q 0 = -1 := fun q hq => by
    show (List.replicate n.toNat (-1 : Int)).getD q 0 = -1 ∧ (List.replicate n.toNat (-1 : Int)).getD q 0 = -1
    rw [List.getD_eq_getElem?_getD, List.getElem?_replicate, if_pos hq]; exact ⟨rfl, rfl⟩
  refine ⟨fun k hk _ h => ?_, fun k x hk hc => ?_, fun x hx h => ?_⟩
  · have o := okL g hk
    have := (hz1 (rl rs k).1.toNat (by omega)).1; omega
  · have h1 := hz x
    have h2 := valC_nn (co := (givC n rs 0).2) (r := rl rs k) hc.2 (okL g hk).2.1.1
    omega
  · have hl : (givC n rs 0).1.length = n.toNat := by show (List.replicate n.toNat (-1 : Int)).length = _; simp
    have := (hz1 x (by omega)).2; omega
theorem KnC.step {t : Nat} {st : List Int × List Int} (K : KnC rs st) (I : InvC n t st) (g : gramV n l rs) {b : Nat} {v : Int} (hs : selC st.2 rs rs.length = some (b, v)) : KnC rs (stepG rs st) := by
  obtain ⟨hb, hc, hv⟩ := selC_spec _ _ _ _ _ hs
  have hmin := selC_min hs
  change candC st.2 (rl rs b) at hc
  change v = valC st.2 (rl rs b) at hv
  have ob := okL g hb
  have hvn : 0 ≤ v := by rw [hv]; exact valC_nn hc.2 ob.2.1.1
  have e : stepG rs st = (st.1.set (rl rs b).1.toNat (b : Int), st.2.set (rl rs b).1.toNat v) := by unfold stepG; rw [hs]
  have hL1 : (rl rs b).1.toNat < st.1.length := by rw [I.l1]; omega
  have hL2 : (rl rs b).1.toNat < st.2.length := by rw [I.l2]; omega
  rw [e]
  have s2 : (st.2.set (rl rs b).1.toNat v).getD (rl rs b).1.toNat 0 = v := getD_set_self hL2
  have n2 : ∀ q, q ≠ (rl rs b).1.toNat → (st.2.set (rl rs b).1.toNat v).getD q 0 = st.2.getD q 0 := fun q hq => getD_set_ne (Ne.symm hq)
  have s1 : (st.1.set (rl rs b).1.toNat (b : Int)).getD (rl rs b).1.toNat 0 = b := getD_set_self hL1
  have n1 : ∀ q, q ≠ (rl rs b).1.toNat → (st.1.set (rl rs b).1.toNat (b : Int)).getD q 0 = st.1.getD q 0 := fun q hq => getD_set_ne (Ne.symm hq)
  -- what was told stays, and what is told anew costs no less
  have kept : ∀ r : R4, havC st.2 r → havC (st.2.set (rl rs b).1.toNat v) r ∧ valC (st.2.set (rl rs b).1.toNat v) r = valC st.2 r := fun r hr => by
    by_cases h2 : 0 ≤ r.2.2.1
    · have hh := hr h2
      have hc1 := hc.1
      have m1 := n2 r.2.1.toNat (fun e => by rw [e] at hh; omega)
      have m2 := n2 r.2.2.1.toNat (fun e => by rw [e] at hh; omega)
      refine ⟨fun _ => by rw [m1, m2]; exact hh, ?_⟩
      unfold valC; rw [m1, m2]
    · exact ⟨fun h3 => absurd h3 h2, by unfold valC; rw [if_neg h2, if_neg h2]⟩
  have anew : ∀ k, k < rs.length → havC (st.2.set (rl rs b).1.toNat v) (rl rs k) → (havC st.2 (rl rs k) ∨ v ≤ valC (st.2.set (rl rs b).1.toNat v) (rl rs k)) := fun k hk hh => by
    by_cases h2 : 0 ≤ (rl rs k).2.2.1
    · have h3 := hh h2
      have ok := okL g hk
      by_cases e1 : (rl rs k).2.1.toNat = (rl rs b).1.toNat
      · right
        unfold valC; rw [if_pos h2]
        rw [e1, s2] at h3 ⊢; omega
      · by_cases e2 : (rl rs k).2.2.1.toNat = (rl rs b).1.toNat
        · right
          unfold valC; rw [if_pos h2]
          rw [e2, s2] at h3 ⊢; omega
        · left
          rw [n2 _ e1, n2 _ e2] at h3
          exact fun _ => h3
    · exact .inl fun h3 => absurd h3 h2
  refine ⟨fun k hk hh h0 => ?_, fun k x hk hcd => ?_, fun x hx h0 => ?_⟩
  · by_cases e1 : (rl rs k).1.toNat = (rl rs b).1.toNat
    · rw [e1] at h0 ⊢; rw [s2]
      rcases anew k hk hh with h | h
      · rw [(kept _ h).2]; exact hmin k hk ⟨by rw [e1]; exact hc.1, h⟩
      · exact h
    · rw [n2 _ e1] at h0 ⊢
      rcases anew k hk hh with h | h
      · rw [(kept _ h).2]; exact K.up k hk h h0
      · have h5 := K.fr b (rl rs k).1.toNat hb hc
        rw [← hv] at h5
        exact Int.le_trans h5 h
  · have hu : st.2.getD (rl rs k).1.toNat 0 < 0 := by
      have := hcd.1
      by_cases e1 : (rl rs k).1.toNat = (rl rs b).1.toNat
      · rw [e1] at this
        change (st.2.set (rl rs b).1.toNat v).getD (rl rs b).1.toNat 0 < 0 at this
        rw [s2] at this; omega
      · change (st.2.set (rl rs b).1.toNat v).getD (rl rs k).1.toNat 0 < 0 at this
        rw [n2 _ e1] at this; exact this
    show (st.2.set (rl rs b).1.toNat v).getD x 0 ≤ valC (st.2.set (rl rs b).1.toNat v) (rl rs k)
    rcases anew k hk hcd.2 with h | h
    · rw [(kept _ h).2]
      by_cases e1 : x = (rl rs b).1.toNat
      · rw [e1, s2]; exact hmin k hk ⟨hu, h⟩
      · rw [n2 _ e1]; exact K.fr k x hk ⟨hu, h⟩
    · by_cases e1 : x = (rl rs b).1.toNat
      · rw [e1, s2]; exact h
      · rw [n2 _ e1]
        have h5 := K.fr b x hb hc
        rw [← hv] at h5
        exact Int.le_trans h5 h
  · change x < (st.1.set (rl rs b).1.toNat (b : Int)).length at hx
    rw [List.length_set] at hx
    change 0 ≤ (st.1.set (rl rs b).1.toNat (b : Int)).getD x 0 at h0
    show (st.1.set (rl rs b).1.toNat (b : Int)).getD x 0 < rs.length ∧ (rl rs ((st.1.set (rl rs b).1.toNat (b : Int)).getD x 0).toNat).1.toNat = x ∧ havC (st.2.set (rl rs b).1.toNat v) (rl rs ((st.1.set (rl rs b).1.toNat (b : Int)).getD x 0).toNat) ∧ (st.2.set (rl rs b).1.toNat v).getD x 0 = valC (st.2.set (rl rs b).1.toNat v) (rl rs ((st.1.set (rl rs b).1.toNat (b : Int)).getD x 0).toNat)
    by_cases e1 : x = (rl rs b).1.toNat
    · rw [e1, s1, s2, Int.toNat_natCast]
      have h := kept (rl rs b) hc.2
      exact ⟨by omega, rfl, h.1, by rw [h.2]; exact hv⟩
    · rw [n1 _ e1] at h0 ⊢
      rw [n2 _ e1]
      obtain ⟨k1, k2, k3, k4⟩ := K.ru x hx h0
      have h := kept _ k3
      exact ⟨k1, k2, h.1, by rw [h.2]; exact k4⟩
theorem knC_all (g : gramV n l rs) : ∀ t, KnC rs (givC n rs t) ∧ ((InvC n t (givC n rs t)) ∨ (selC (givC n rs t).2 rs rs.length = none ∧ ∃ s, InvC n s (givC n rs t)))
  | 0 => ⟨KnC.zero g, .inl (InvC.zero n rs)⟩
  | t + 1 => by
    obtain ⟨K, ih⟩ := knC_all g t
    have e : givC n rs (t + 1) = stepG rs (givC n rs t) := rfl
    cases hq : selC (givC n rs t).2 rs rs.length with
    | none =>
      have e2 : givC n rs (t + 1) = givC n rs t := by rw [e]; unfold stepG; rw [hq]
      rw [e2]
      rcases ih with ih | ih
      · exact ⟨K, .inr ⟨hq, _, ih⟩⟩
      · exact ⟨K, .inr ih⟩
    | some y =>
      obtain ⟨b, v⟩ := y
      rcases ih with ih | ih
      · rw [e]; exact ⟨K.step ih g hq, .inl (ih.step g hq)⟩
      · rw [ih.1] at hq; cases hq
/-- At last no rule is left. -/
theorem allC_end (g : gramV n l rs) : KnC rs (allC n rs) ∧ (∀ k, k < rs.length → ¬ candC (allC n rs).2 (rl rs k)) ∧ ∃ s, InvC n s (allC n rs) := by
  obtain ⟨K, h⟩ := knC_all g n.toNat
  refine ⟨K, ?_⟩
  rcases h with h | ⟨h, s, hs⟩
  · refine ⟨fun k hk hc => ?_, _, h⟩
    cases hq : selC (givC n rs n.toNat).2 rs rs.length with
    | none => exact selC_none hq k hk hc
    | some y =>
      obtain ⟨b, v⟩ := y
      have := (h.step g hq).le
      omega
  · exact ⟨fun k hk hc => selC_none h k hk hc, s, hs⟩
theorem allC_up (g : gramV n l rs) {k : Nat} (hk : k < rs.length) (h : havC (allC n rs).2 (rl rs k)) : 0 ≤ (allC n rs).2.getD (rl rs k).1.toNat 0 ∧ (allC n rs).2.getD (rl rs k).1.toNat 0 ≤ valC (allC n rs).2 (rl rs k) := by
  obtain ⟨K, hn, _⟩ := allC_end g
  have h1 : 0 ≤ (allC n rs).2.getD (rl rs k).1.toNat 0 := Classical.byContradiction fun h2 => hn k hk ⟨by omega, h⟩
  exact ⟨h1, K.up k hk h h1⟩
/-- No tree costs less than is told. -/
theorem DC.least (g : gramV n l rs) {wd : List Int} {i j : Nat} {a c : Int} (h : DC rs wd i j a c) : 0 ≤ (allC n rs).2.getD a.toNat 0 ∧ (allC n rs).2.getD a.toNat 0 ≤ c := by
  induction h with
  | leaf i k h1 h2 h3 h4 =>
    have := allC_up g h1 (fun h => by omega)
    unfold valC at this
    rw [if_neg (by omega)] at this
    exact this
  | node i m j k c1 c2 h1 h2 h3 h4 i1 i2 =>
    have := allC_up g h1 (fun _ => ⟨i1.1, i2.1⟩)
    unfold valC at this
    rw [if_pos h2] at this
    exact ⟨this.1, by omega⟩

/-! ### Cheapest words -/
theorem DC.move {wd wd2 : List Int} {s i j : Nat} {a c : Int} (h : DC rs wd i j a c) : (∀ q, i ≤ q → q < j → q + s < wd2.length ∧ wd2.getD (q + s) 0 = wd.getD q 0) → DC rs wd2 (i + s) (j + s) a c := by
  induction h with
  | leaf i k h1 h2 h3 h4 =>
    intro hw
    have h5 := hw i (Nat.le_refl _) (by omega)
    have := DC.leaf (rs := rs) (wd := wd2) (i + s) k h1 h5.1 h3 (by rw [h5.2]; exact h4)
    rwa [show i + s + 1 = i + 1 + s by omega] at this
  | node i m j k c1 c2 h1 h2 h3 h4 i1 i2 =>
    intro hw
    have e1 := h3.lt; have e2 := h4.lt
    exact DC.node _ _ _ k c1 c2 h1 h2 (i1 fun q h5 h6 => hw q h5 (by omega)) (i2 fun q h5 h6 => hw q (by omega) h6)
theorem DC.left {u w : List Int} {a c : Int} (h : DC rs u 0 u.length a c) : DC rs (u ++ w) 0 u.length a c := by
  have := h.move (s := 0) (wd2 := u ++ w) fun q _ h2 => ⟨by rw [List.length_append]; omega, by
    rw [Nat.add_zero, List.getD_eq_getElem?_getD, List.getElem?_append_left h2, ← List.getD_eq_getElem?_getD]⟩
  simpa using this
theorem DC.right {u w : List Int} {a c : Int} (h : DC rs w 0 w.length a c) : DC rs (u ++ w) u.length (u ++ w).length a c := by
  have := h.move (s := u.length) (wd2 := u ++ w) fun q _ h2 => ⟨by rw [List.length_append]; omega, by
    rw [List.getD_eq_getElem?_getD, List.getElem?_append_right (by omega), Nat.add_sub_cancel, ← List.getD_eq_getElem?_getD]⟩
  rw [Nat.zero_add] at this
  rw [List.length_append, Nat.add_comm u.length]
  exact this
theorem DC.lets (g : gramV n l rs) {wd : List Int} {i j : Nat} {a c : Int} (h : DC rs wd i j a c) : ∀ q, i ≤ q → q < j → 0 ≤ wd.getD q 0 ∧ wd.getD q 0 < l := by
  induction h with
  | leaf i k h1 h2 h3 h4 =>
    intro q h5 h6
    have e : q = i := by omega
    have := (okL g h1).2.2.2 h3
    rw [e, h4]; exact this
  | node i m j k c1 c2 h1 h2 h3 h4 i1 i2 =>
    intro q h5 h6
    by_cases h7 : q < m
    · exact i1 q h5 h7
    · exact i2 q (by omega) h6
theorem wordW_dc (g : gramV n l rs) {d : Nat → Nat} (D : DagC n rs (allC n rs).1 d) : ∀ (m : Nat) (x : Int), 0 ≤ x → x < n → 0 ≤ (allC n rs).1.getD x.toNat 0 → d x.toNat ≤ m →
    DC rs (wordW rs (allC n rs).1 x) 0 (wordW rs (allC n rs).1 x).length x ((allC n rs).2.getD x.toNat 0)
  | 0, x, h0, h1, h2, h3 => by have := (D.ok x h0 h1 h2).2.1; omega
  | m + 1, x, h0, h1, h2, h3 => by
    obtain ⟨K, _, s, I⟩ := allC_end g
    obtain ⟨k1, k2, k3⟩ := D.ok x h0 h1 h2
    obtain ⟨r1, r2, r3, r4⟩ := K.ru x.toNat (by rw [I.l1]; omega) h2
    have hk : ((allC n rs).1.getD x.toNat 0).toNat < rs.length := by omega
    have o := okL g hk
    have ex : (ruR rs (allC n rs).1 x).1 = x := by
      show (rl rs ((allC n rs).1.getD x.toNat 0).toNat).1 = x
      omega
    by_cases hs : (ruR rs (allC n rs).1 x).2.2.1 < 0
    · rw [wordW_leaf hs, r4]
      unfold valC
      rw [if_neg (by show ¬ 0 ≤ (ruR rs (allC n rs).1 x).2.2.1; omega)]
      have := DC.leaf (rs := rs) (wd := [(ruR rs (allC n rs).1 x).2.1]) 0 _ hk (by simp) hs rfl
      rw [show (rl rs ((allC n rs).1.getD x.toNat 0).toNat).1 = x from ex] at this
      exact this
    · obtain ⟨⟨a1, a2, a3, a4⟩, b1, b2, b3⟩ := k3 (by omega)
      rw [wordW_node D g.1.2 h0 h1 h2 hs, r4]
      have d1 := (wordW_dc g D m _ a1 a2 a3 (by omega)).left (w := wordW rs (allC n rs).1 (ruR rs (allC n rs).1 x).2.2.1)
      have d2 := (wordW_dc g D m _ (by omega) b1 b2 (by omega)).right (u := wordW rs (allC n rs).1 (ruR rs (allC n rs).1 x).2.1)
      have := DC.node (rs := rs) _ _ _ _ _ _ hk (by show 0 ≤ (ruR rs (allC n rs).1 x).2.2.1; omega) d1 d2
      rw [show (rl rs ((allC n rs).1.getD x.toNat 0).toNat).1 = x from ex] at this
      unfold valC
      rw [if_pos (by show 0 ≤ (ruR rs (allC n rs).1 x).2.2.1; omega)]
      rw [Int.add_comm _ (rl rs ((allC n rs).1.getD x.toNat 0).toNat).2.2.2] at this
      exact this
theorem allC_same (g : gramV n l rs) {x : Nat} (hx : x < n.toNat) : 0 ≤ (allC n rs).1.getD x 0 ↔ 0 ≤ (allC n rs).2.getD x 0 := by
  obtain ⟨_, _, s, I⟩ := allC_end g
  have := I.same x hx
  omega
/-- The cheapest word parses at its price, and no word parses for less. -/
theorem cheap_tells (g : gramV n l rs) (h0 : 0 ≤ (allC n rs).1.getD (0 : Int).toNat 0) (h12 : (wordW rs (allC n rs).1 0).length ≤ 12) :
    leastC rs (wordW rs (allC n rs).1 0) 0 (wordW rs (allC n rs).1 0).length 0 = (allC n rs).2.getD 0 0 ∧ canB n l rs (wordW rs (allC n rs).1 0) = true := by
  obtain ⟨d, D⟩ := dagC g
  have hd := wordW_dc g D _ 0 (Int.le_refl _) (by have := g.1; omega) h0 (Nat.le_refl _)
  have e : (0 : Int).toNat = 0 := rfl
  refine ⟨(leastC_of hd fun c' hc => (hc.least g).2).symm, ?_⟩
  have hw : isWordB (wordW rs (allC n rs).1 0) l = true := by
    simp only [isWordB, wordB, Bool.and_eq_true, decide_eq_true_eq]
    refine ⟨g.2.1, by omega, ?_⟩
    unfold allIn
    rw [List.all_eq_true]
    intro x hx
    obtain ⟨q, hq, rfl⟩ := List.mem_iff_getElem.1 hx
    have := hd.lets g q (Nat.zero_le _) hq
    rw [List.getD_eq_getElem?_getD, List.getElem?_eq_getElem hq] at this
    simp only [Option.getD_some] at this
    simp only [decide_eq_true_eq]
    omega
  rw [canB_e1 g hw]
  exact decide_eq_true hd.lt.1
end
end Go.WX
