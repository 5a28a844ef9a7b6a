/- Plain laws on the word of the cheapest tree; no program. No condition. -/
import Derived.Test.YthemmoceomdccaaPlC
namespace Go.WX
open Go
@[reducible] def ruR (rs : List R4) (ru : List Int) (x : Int) : R4 := rs.getD (ru.getD x.toNat 0).toNat (0, 0, 0, 0)
def wordC (rs : List R4) (ru : List Int) : Nat → Int → List Int
  | 0, _ => []
  | f + 1, x => if (ruR rs ru x).2.2.1 < 0 then [(ruR rs ru x).2.1] else wordC rs ru f (ruR rs ru x).2.1 ++ wordC rs ru f (ruR rs ru x).2.2.1
/-- Every name that has a rule has its rule's names before it. -/
structure DagC (n : Int) (rs : List R4) (ru : List Int) (d : Nat → Nat) : Prop where
  len : ru.length = n.toNat
  le : ∀ x, d x ≤ n.toNat
  ok : ∀ x : Int, 0 ≤ x → x < n → 0 ≤ ru.getD x.toNat 0 → ru.getD x.toNat 0 < rs.length ∧ 1 ≤ d x.toNat ∧ (0 ≤ (ruR rs ru x).2.2.1 →
    (0 ≤ (ruR rs ru x).2.1 ∧ (ruR rs ru x).2.1 < n ∧ 0 ≤ ru.getD (ruR rs ru x).2.1.toNat 0 ∧ d (ruR rs ru x).2.1.toNat < d x.toNat) ∧
    ((ruR rs ru x).2.2.1 < n ∧ 0 ≤ ru.getD (ruR rs ru x).2.2.1.toNat 0 ∧ d (ruR rs ru x).2.2.1.toNat < d x.toNat))
section
variable {n : Int} {rs : List R4} {ru : List Int} {d : Nat → Nat}
theorem wordC_fuel (h : DagC n rs ru d) : ∀ (f g : Nat) (x : Int), 0 ≤ x → x < n → 0 ≤ ru.getD x.toNat 0 → d x.toNat ≤ f → d x.toNat ≤ g → wordC rs ru f x = wordC rs ru g x := fun f => by
  induction f with
  | zero => intro g x h0 h1 h2 h3 _; have := (h.ok x h0 h1 h2).2.1; omega
  | succ f ih =>
    intro g x h0 h1 h2 h3 h4
    obtain ⟨k1, k2, k3⟩ := h.ok x h0 h1 h2
    cases g with
    | zero => omega
    | succ g =>
      simp only [wordC]
      split
      · rfl
      · rename_i hs
        obtain ⟨⟨a1, a2, a3, a4⟩, b1, b2, b3⟩ := k3 (by omega)
        rw [ih g _ a1 a2 a3 (by omega) (by omega), ih g _ (by omega) b1 b2 (by omega) (by omega)]
/-- The word that the rules make of a name. -/
def wordW (rs : List R4) (ru : List Int) (x : Int) : List Int := wordC rs ru 9 x
theorem wordW_leaf {x : Int} (hs : (ruR rs ru x).2.2.1 < 0) : wordW rs ru x = [(ruR rs ru x).2.1] := by
  unfold wordW; simp only [wordC, if_pos hs]
theorem wordW_node (h : DagC n rs ru d) (hn : n ≤ 8) {x : Int} (h0 : 0 ≤ x) (h1 : x < n) (h2 : 0 ≤ ru.getD x.toNat 0) (hs : ¬ (ruR rs ru x).2.2.1 < 0) : wordW rs ru x = wordW rs ru (ruR rs ru x).2.1 ++ wordW rs ru (ruR rs ru x).2.2.1 := by
  obtain ⟨k1, k2, k3⟩ := h.ok x h0 h1 h2
  obtain ⟨⟨a1, a2, a3, a4⟩, b1, b2, b3⟩ := k3 (by omega)
  have hl := h.le x.toNat
  have e1 := wordC_fuel h 8 9 (ruR rs ru x).2.1 a1 a2 a3 (by omega) (by omega)
  have e2 := wordC_fuel h 8 9 (ruR rs ru x).2.2.1 (by omega) b1 b2 (by omega) (by omega)
  unfold wordW
  rw [← e1, ← e2]
  show wordC rs ru (8 + 1) x = _
  simp only [wordC]; rw [if_neg hs]
theorem wordW_len (h : DagC n rs ru d) (hn : n ≤ 8) : ∀ (m : Nat) (x : Int), 0 ≤ x → x < n → 0 ≤ ru.getD x.toNat 0 → d x.toNat ≤ m → (wordW rs ru x).length ≤ 2 ^ d x.toNat := fun m => by
  induction m with
  | zero => intro x h0 h1 h2 h3; have := (h.ok x h0 h1 h2).2.1; omega
  | succ m ih =>
    intro x h0 h1 h2 h3
    obtain ⟨k1, k2, k3⟩ := h.ok x h0 h1 h2
    by_cases hs : (ruR rs ru x).2.2.1 < 0
    · rw [wordW_leaf hs]; exact Nat.one_le_two_pow
    · obtain ⟨⟨a1, a2, a3, a4⟩, b1, b2, b3⟩ := k3 (by omega)
      rw [wordW_node h hn h0 h1 h2 hs, List.length_append]
      have c1 := ih _ a1 a2 a3 (by omega)
      have c2 := ih _ (by omega) b1 b2 (by omega)
      have p1 : 2 ^ d (ruR rs ru x).2.1.toNat ≤ 2 ^ (d x.toNat - 1) := Nat.pow_le_pow_right (by decide) (by omega)
      have p2 : 2 ^ d (ruR rs ru x).2.2.1.toNat ≤ 2 ^ (d x.toNat - 1) := Nat.pow_le_pow_right (by decide) (by omega)
      have p3 : 2 ^ d x.toNat = 2 * 2 ^ (d x.toNat - 1) := by
        have e : d x.toNat = (d x.toNat - 1) + 1 := by omega
        conv => lhs; rw [e, Nat.pow_succ]
        omega
      omega
theorem pow_sum (h : DagC n rs ru d) (hn : n ≤ 8) {x : Int} (h0 : 0 ≤ x) (h1 : x < n) (h2 : 0 ≤ ru.getD x.toNat 0) (hs : ¬ (ruR rs ru x).2.2.1 < 0) : (wordW rs ru (ruR rs ru x).2.1).length + 2 ^ d (ruR rs ru x).2.2.1.toNat ≤ 2 ^ d x.toNat ∧ 2 ^ d (ruR rs ru x).2.1.toNat ≤ 2 ^ d x.toNat := by
  obtain ⟨k1, k2, k3⟩ := h.ok x h0 h1 h2
  obtain ⟨⟨a1, a2, a3, a4⟩, b1, b2, b3⟩ := k3 (by omega)
  have c1 := wordW_len h hn _ _ a1 a2 a3 (Nat.le_refl _)
  have p1 : 2 ^ d (ruR rs ru x).2.1.toNat ≤ 2 ^ (d x.toNat - 1) := Nat.pow_le_pow_right (by decide) (by omega)
  have p2 : 2 ^ d (ruR rs ru x).2.2.1.toNat ≤ 2 ^ (d x.toNat - 1) := Nat.pow_le_pow_right (by decide) (by omega)
  have p3 : 2 ^ d x.toNat = 2 * 2 ^ (d x.toNat - 1) := by
    have e : d x.toNat = (d x.toNat - 1) + 1 := by omega
    conv => lhs; rw [e, Nat.pow_succ]
    omega
  omega
end
theorem pow_le256 {k : Nat} (h : k ≤ 8) : 2 ^ k ≤ 256 := Nat.pow_le_pow_right (by decide : 0 < 2) h
theorem dag_step {n l : Int} {rs : List R4} (hg : gramV n l rs) : ∀ t, ∃ d : Nat → Nat, (∀ x, d x ≤ cntZ (givC n rs t).2) ∧ InvC n (cntZ (givC n rs t).2) (givC n rs t) ∧ ∀ x : Int, 0 ≤ x → x < n → 0 ≤ (givC n rs t).1.getD x.toNat 0 → (givC n rs t).1.getD x.toNat 0 < rs.length ∧ 1 ≤ d x.toNat ∧ (0 ≤ (ruR rs (givC n rs t).1 x).2.2.1 →
    (0 ≤ (ruR rs (givC n rs t).1 x).2.1 ∧ (ruR rs (givC n rs t).1 x).2.1 < n ∧ 0 ≤ (givC n rs t).1.getD (ruR rs (givC n rs t).1 x).2.1.toNat 0 ∧ d (ruR rs (givC n rs t).1 x).2.1.toNat < d x.toNat) ∧
    ((ruR rs (givC n rs t).1 x).2.2.1 < n ∧ 0 ≤ (givC n rs t).1.getD (ruR rs (givC n rs t).1 x).2.2.1.toNat 0 ∧ d (ruR rs (givC n rs t).1 x).2.2.1.toNat < d x.toNat)) := fun t => by
  induction t with
  | zero =>
    have hI := InvC.zero n rs
    refine ⟨fun _ => 0, fun _ => Nat.zero_le _, by rw [hI.c]; exact hI, fun x h0 h1 h2 => ?_⟩
    have : (givC n rs 0).1.getD x.toNat 0 = -1 := by
      show (List.replicate n.toNat (-1 : Int)).getD x.toNat 0 = -1
      have h9 := rep_getD n.toNat x.toNat
      have h8 : (List.replicate n.toNat (-1 : Int)).getD x.toNat 0 = -1 := by
        rw [List.getD_eq_getElem?_getD, List.getElem?_replicate, if_pos (by omega)]; rfl
      exact h8
    omega
  | succ t ih =>
    obtain ⟨d, hd1, hI, hd2⟩ := ih
    have e : givC n rs (t + 1) = stepG rs (givC n rs t) := rfl
    cases hq : selC (givC n rs t).2 rs rs.length with
    | none =>
      have e2 : givC n rs (t + 1) = givC n rs t := by rw [e]; unfold stepG; rw [hq]
      rw [e2]; exact ⟨d, hd1, hI, hd2⟩
    | some y =>
      obtain ⟨b, v⟩ := y
      have hI' := hI.step hg hq
      obtain ⟨hb, hc, hv⟩ := selC_spec _ _ _ _ _ hq
      have ok : okR n l (rs.getD b (0, 0, 0, 0)) := hg.2.2.2 b hb
      have o1 := ok.1; have o2 := ok.2.1; have o4 := ok.2.2.2.1; have o5 := ok.2.2.2.2
      have e2 : givC n rs (t + 1) = ((givC n rs t).1.set (rs.getD b (0, 0, 0, 0)).1.toNat (b : Int), (givC n rs t).2.set (rs.getD b (0, 0, 0, 0)).1.toNat v) := by rw [e]; unfold stepG; rw [hq]
      rw [← e] at hI'
      have hcn := hI'.c
      rw [hcn]
      have hlen1 := hI.l1
      have hne : ∀ q : Nat, 0 ≤ (givC n rs t).1.getD q 0 → q < n.toNat → (rs.getD b (0, 0, 0, 0)).1.toNat ≠ q := fun q h1 hq he => by
        subst he
        have := hI.same _ hq
        have := hc.1; omega
      refine ⟨fun q => if q = (rs.getD b (0, 0, 0, 0)).1.toNat then cntZ (givC n rs t).2 + 1 else d q, fun q => ?_, hI', fun x h0 h1 h2 => ?_⟩
      · show (if q = (rs.getD b (0, 0, 0, 0)).1.toNat then cntZ (givC n rs t).2 + 1 else d q) ≤ _
        split
        · omega
        · have := hd1 q; omega
      · have hx : x.toNat < n.toNat := by omega
        by_cases hxe : x.toNat = (rs.getD b (0, 0, 0, 0)).1.toNat
        · have eR : (givC n rs (t + 1)).1.getD x.toNat 0 = (b : Int) := by rw [e2, hxe]; exact getD_set_self (by rw [hlen1]; omega)
          have eRR : ruR rs (givC n rs (t + 1)).1 x = rs.getD b (0, 0, 0, 0) := by unfold ruR; rw [eR]; simp
          rw [eRR, eR]
          dsimp only
          refine ⟨by omega, by rw [if_pos hxe]; omega, fun hs => ?_⟩
          have hc2 := hc.2 hs
          have r1 : (rs.getD b (0, 0, 0, 0)).2.1.toNat < n.toNat := by have := o5 (by omega); omega
          have r2 : (rs.getD b (0, 0, 0, 0)).2.2.1.toNat < n.toNat := by omega
          have s1 := hI.same _ r1; have s2 := hI.same _ r2
          have n1 := hne _ (by omega) r1; have n2 := hne _ (by omega) r2
          have g1 : (givC n rs (t + 1)).1.getD (rs.getD b (0, 0, 0, 0)).2.1.toNat 0 = (givC n rs t).1.getD (rs.getD b (0, 0, 0, 0)).2.1.toNat 0 := by rw [e2]; exact getD_set_ne n1
          have g2 : (givC n rs (t + 1)).1.getD (rs.getD b (0, 0, 0, 0)).2.2.1.toNat 0 = (givC n rs t).1.getD (rs.getD b (0, 0, 0, 0)).2.2.1.toNat 0 := by rw [e2]; exact getD_set_ne n2
          rw [g1, g2, if_neg (Ne.symm n1), if_neg (Ne.symm n2), if_pos hxe]
          have d1 := hd1 (rs.getD b (0, 0, 0, 0)).2.1.toNat; have d2 := hd1 (rs.getD b (0, 0, 0, 0)).2.2.1.toNat
          have := o5 (by omega)
          exact ⟨⟨by omega, by omega, by omega, by omega⟩, by omega, by omega, by omega⟩
        · have eR : (givC n rs (t + 1)).1.getD x.toNat 0 = (givC n rs t).1.getD x.toNat 0 := by rw [e2]; exact getD_set_ne (Ne.symm hxe)
          have eRR : ruR rs (givC n rs (t + 1)).1 x = ruR rs (givC n rs t).1 x := by unfold ruR; rw [eR]
          rw [eR] at h2
          obtain ⟨k1, k2, k3⟩ := hd2 x h0 h1 h2
          rw [eRR, eR]
          dsimp only
          rw [if_neg hxe]
          refine ⟨k1, k2, fun hs => ?_⟩
          obtain ⟨⟨a1, a2, a3, a4⟩, b1, b2, b3⟩ := k3 hs
          have n1 := hne _ a3 (by omega); have n2 := hne _ b2 (by omega)
          have g1 : (givC n rs (t + 1)).1.getD (ruR rs (givC n rs t).1 x).2.1.toNat 0 = (givC n rs t).1.getD (ruR rs (givC n rs t).1 x).2.1.toNat 0 := by rw [e2]; exact getD_set_ne n1
          have g2 : (givC n rs (t + 1)).1.getD (ruR rs (givC n rs t).1 x).2.2.1.toNat 0 = (givC n rs t).1.getD (ruR rs (givC n rs t).1 x).2.2.1.toNat 0 := by rw [e2]; exact getD_set_ne n2
          rw [g1, g2, if_neg (Ne.symm n1), if_neg (Ne.symm n2)]
          exact ⟨⟨a1, a2, a3, a4⟩, b1, b2, b3⟩
theorem dagC {n l : Int} {rs : List R4} (hg : gramV n l rs) : ∃ d, DagC n rs (allC n rs).1 d := by
  obtain ⟨d, h1, h2, h3⟩ := dag_step hg n.toNat
  exact ⟨d, h2.l1, fun x => Nat.le_trans (h1 x) h2.le, h3⟩
def cutW (xs : List Int) : List Int := xs.take 13
theorem cutW_full {xs ys : List Int} (h : xs.length ≤ 13) (h2 : 12 < xs.length) : xs = (xs ++ ys).take 13 := by
  rw [List.take_append_of_le_length (by omega), List.take_of_length_le h]
theorem cutW_leaf {xs : List Int} {c : Int} (h : xs.length ≤ 12) : xs ++ [c] = (xs ++ [c]).take 13 := by
  rw [List.take_of_length_le (by simp; omega)]
theorem cutW_two (xs ys zs : List Int) : ((xs ++ ys).take 13 ++ zs).take 13 = (xs ++ (ys ++ zs)).take 13 := by
  rw [← List.append_assoc]
  generalize xs ++ ys = A
  by_cases h : A.length ≤ 13
  · rw [List.take_of_length_le h]
  · have h1 : (A.take 13).length = 13 := by rw [List.length_take]; omega
    have e1 : (A.take 13 ++ zs).take 13 = (A.take 13).take 13 := List.take_append_of_le_length (by omega)
    have e2 : (A ++ zs).take 13 = A.take 13 := List.take_append_of_le_length (by omega)
    rw [e1, e2, List.take_take]; simp
noncomputable def cheapB (n l : Int) (rs : List R4) : Bool := decide (gramV n l rs ∧ 0 ≤ (allC n rs).1.getD (0 : Int).toNat 0 ∧ (wordW rs (allC n rs).1 0).length ≤ 12)
theorem cheap_n1 {n l : Int} {rs : List R4} (h : ¬ gramV n l rs) : ¬ cheapB n l rs = true := by simp [cheapB, h]
theorem cheap_n2 {n l : Int} {rs : List R4} (h : (allC n rs).1.getD (0 : Int).toNat 0 < 0) : ¬ cheapB n l rs = true := fun k => by have := (of_decide_eq_true k).2.1; omega
theorem cheap_n3 {n l : Int} {rs : List R4} (h : 12 < (wordW rs (allC n rs).1 0).length) : ¬ cheapB n l rs = true := fun k => by have := (of_decide_eq_true k).2.2; omega
theorem cheap_yes {n l : Int} {rs : List R4} (h1 : gramV n l rs) (h2 : 0 ≤ (allC n rs).1.getD (0 : Int).toNat 0) (h3 : (wordW rs (allC n rs).1 0).length ≤ 12) : cheapB n l rs = true := decide_eq_true ⟨h1, h2, h3⟩
theorem cheap_len (n l : Int) (rs : List R4) : (onT (cheapB n l rs) (wordW rs (allC n rs).1 0)).length ≤ 12 := by
  by_cases h : cheapB n l rs = true
  · rw [onT_yes h]; exact (of_decide_eq_true h).2.2
  · rw [onT_no h]; simp
theorem t3E {a b c d e f : Value} (h : a = d) (h2 : b = e) (h3 : c = f) : Value.tuple #[a, b, c] = .tuple #[d, e, f] := by rw [h, h2, h3]
end Go.WX
