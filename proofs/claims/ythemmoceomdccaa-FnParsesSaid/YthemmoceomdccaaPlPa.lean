/- Plain laws on parses: backwards, in charts, as trees, as many; no program. No condition. -/
import Derived.Test.YthemmoceomdccaaPlB
import Derived.Test.YthemmoceomdccaaPlJ
namespace Go.WX
open Go

section
variable {rs : List R4} {wd : List Int} {nm l : Int} {i j : Nat} {a : Int}
theorem leastC_spec (g : gramV nm l rs) (h : ∃ c, DC rs wd i j a c) : DC rs wd i j a (leastC rs wd i j a) ∧ (∀ c', DC rs wd i j a c' → leastC rs wd i j a ≤ c') ∧ 0 ≤ leastC rs wd i j a := by
  obtain ⟨c, d⟩ := h
  obtain ⟨b, hb⟩ := Lst.ex g d
  have e := leastC_of hb.d hb.le
  rw [← e]; exact ⟨hb.d, hb.le, (hb.d.rng g).2.1⟩
theorem leastC_lo (g : gramV nm l rs) : -1 ≤ leastC rs wd i j a := by
  by_cases h : ∃ c, DC rs wd i j a c
  · have := (leastC_spec g h).2.2; omega
  · rw [← leastC_no h]; omega
theorem leastC_congr {rs2 : List R4} {wd2 : List Int} {i2 j2 : Nat} {a2 : Int} (g : gramV nm l rs) (h : ∀ c, DC rs wd i j a c ↔ DC rs2 wd2 i2 j2 a2 c) : leastC rs2 wd2 i2 j2 a2 = leastC rs wd i j a := by
  by_cases h1 : ∃ c, DC rs wd i j a c
  · have h2 := leastC_spec g h1
    exact (leastC_of ((h _).1 h2.1) fun c' hc => h2.2.1 c' ((h c').2 hc)).symm
  · rw [← leastC_no h1, ← leastC_no (fun ⟨c, hc⟩ => h1 ⟨c, (h c).2 hc⟩)]

/-! ### Backwards -/
theorem rl_map {f : R4 → R4} (h0 : f (0, 0, 0, 0) = (0, 0, 0, 0)) (k : Nat) : rl (rs.map f) k = f (rl rs k) := by
  unfold rl
  rw [List.getD_eq_getElem?_getD, List.getElem?_map, List.getD_eq_getElem?_getD]
  cases rs[k]? with
  | none => exact h0.symm
  | some r => rfl
theorem backR_z : backR (0, 0, 0, 0) = (0, 0, 0, 0) := rfl
theorem back_rl (k : Nat) : rl (rs.map backR) k = backR (rl rs k) := rl_map backR_z k
theorem gram_back (g : gramV nm l rs) : gramV nm l (rs.map backR) := by
  refine ⟨g.1, g.2.1, by rw [List.length_map]; exact g.2.2.1, fun k hk => ?_⟩
  rw [List.length_map] at hk
  have h := g.2.2.2 k hk
  have e : (rs.map backR).getD k (0, 0, 0, 0) = backR (rs.getD k (0, 0, 0, 0)) := back_rl k
  rw [e]
  unfold okR at *
  unfold backR
  split
  · simp only; omega
  · exact h
theorem back_back (g : gramV nm l rs) : (rs.map backR).map backR = rs := by
  refine List.ext_getElem (by simp) fun k h1 h2 => ?_
  have h := g.2.2.2 k h2
  have e : rs.getD k (0, 0, 0, 0) = rs[k] := by rw [List.getD_eq_getElem?_getD, List.getElem?_eq_getElem h2]; rfl
  rw [List.getElem_map, List.getElem_map, ← e]
  unfold okR at h
  unfold backR
  by_cases h3 : 0 ≤ (rs.getD k (0, 0, 0, 0)).2.2.1
  · rw [if_pos h3, if_pos (show 0 ≤ (rs.getD k (0, 0, 0, 0)).2.1 by omega)]
  · rw [if_neg h3, if_neg h3]
theorem rev_get {q : Nat} (h : q < wd.length) : wd.reverse.getD (wd.length - 1 - q) 0 = wd.getD q 0 := by
  rw [List.getD_eq_getElem?_getD, List.getElem?_reverse (by omega), List.getD_eq_getElem?_getD]
  congr 2; omega
theorem DC.back (g : gramV nm l rs) {c : Int} (h : DC rs wd i j a c) : DC (rs.map backR) wd.reverse (wd.length - j) (wd.length - i) a c := by
  induction h with
  | leaf i k h1 h2 h3 h4 =>
    have e := back_rl (rs := rs) k
    have e2 : backR (rl rs k) = rl rs k := by unfold backR; rw [if_neg (by omega)]
    rw [e2] at e
    have h5 := DC.leaf (rs := rs.map backR) (wd := wd.reverse) (wd.length - (i + 1)) k (by simpa using h1) (by simp; omega) (by rw [e]; exact h3) (by
      rw [show wd.length - (i + 1) = wd.length - 1 - i by omega, rev_get h2, e]; exact h4)
    rw [e, show wd.length - (i + 1) + 1 = wd.length - i by omega] at h5
    exact h5
  | node i m j k c1 c2 h1 h2 h3 h4 i1 i2 =>
    have e := back_rl (rs := rs) k
    have e2 : backR (rl rs k) = ((rl rs k).1, (rl rs k).2.2.1, (rl rs k).2.1, (rl rs k).2.2.2) := by unfold backR; rw [if_pos h2]
    rw [e2] at e
    have hn := gram_node g h1 h2
    have h5 := DC.node (rs := rs.map backR) (wd := wd.reverse) (wd.length - j) (wd.length - m) (wd.length - i) k c2 c1 (by simpa using h1) (by rw [e]; exact hn.1.1) (by rw [e]; exact i2) (by rw [e]; exact i1)
    rw [e] at h5
    have e3 : c2 + c1 + (rl rs k).2.2.2 = c1 + c2 + (rl rs k).2.2.2 := by omega
    rw [e3] at h5
    exact h5
theorem leastC_back (g : gramV nm l rs) : leastC (rs.map backR) wd.reverse 0 wd.reverse.length a = leastC rs wd 0 wd.length a := by
  refine leastC_congr g fun c => ⟨fun h => ?_, fun h => ?_⟩
  · have := h.back g
    rwa [Nat.sub_self, Nat.sub_zero, ← List.length_reverse (as := wd)] at this
  · have h2 := h.back (gram_back g)
    rw [back_back g, List.reverse_reverse, Nat.sub_self, Nat.sub_zero, List.length_reverse] at h2
    exact h2
theorem canB_back {a0 a1 : Int} {xs : List Int} (h : canB a0 a1 rs xs = true) : canB a0 a1 (rs.map backR) xs.reverse = true := by
  obtain ⟨g, h1, h2⟩ := canB_y h
  have hw : isWordB xs.reverse a1 = true := by
    simp only [isWordB, wordB, Bool.and_eq_true, decide_eq_true_eq]
    refine ⟨g.2.1, by rw [List.length_reverse]; omega, ?_⟩
    unfold allIn at *
    rw [List.all_eq_true] at *
    exact fun x hx => h2 x (List.mem_reverse.1 hx)
  rw [canB_e1 (gram_back g) hw, List.length_reverse]
  exact decide_eq_true h1.1

/-! ### In charts -/
theorem alS_sum (rs : List R4) (wd : List Int) (nm : Int) : ∀ i, i ≤ wd.length → 2 * ((alS rs wd nm i).length : Int) = (i : Int) * (2 * wd.length + 1 - i)
  | 0, _ => by simp [alS]
  | i + 1, h => by
    have ih := alS_sum rs wd nm i (by omega)
    simp only [alS, List.length_append, rwS_len]
    have e : (((alS rs wd nm i).length + (wd.length - i) : Nat) : Int) = ((alS rs wd nm i).length : Int) + ((wd.length : Int) - i) := by omega
    rw [e, Int.mul_add, ih]
    have e2 : ((i + 1 : Nat) : Int) = (i : Int) + 1 := by omega
    rw [e2, Int.add_mul, Int.one_mul, show (2 * (wd.length : Int) + 1 - ((i : Int) + 1)) = (2 * (wd.length : Int) + 1 - i) - 1 by omega, Int.mul_sub (i : Int) (2 * (wd.length : Int) + 1 - i) 1, Int.mul_one]
    generalize (i : Int) * (2 * (wd.length : Int) + 1 - i) = X
    omega
theorem alS_full (rs : List R4) (wd : List Int) (nm : Int) : ((alS rs wd nm wd.length).length : Int) = ((wd.length : Int) * ((wd.length : Int) + 1)).tdiv 2 := by
  have h := alS_sum rs wd nm wd.length (Nat.le_refl _)
  have e : 2 * (wd.length : Int) + 1 - wd.length = (wd.length : Int) + 1 := by omega
  rw [e] at h
  rw [Int.tdiv_eq_ediv_of_nonneg (by omega)]
  omega
theorem alS_pre (rs : List R4) (wd : List Int) (nm : Int) (i : Nat) : ∀ d, alS rs wd nm i <+: alS rs wd nm (i + d)
  | 0 => List.prefix_refl _
  | d + 1 => (alS_pre rs wd nm i d).trans (List.prefix_append _ _)
theorem alS_top (rs : List R4) (wd : List Int) (nm : Int) (h : 1 ≤ wd.length) : (alS rs wd nm wd.length).getD (wd.length - 1) 0 = nS rs wd 0 wd.length nm.toNat := by
  have hp := alS_pre rs wd nm 1 (wd.length - 1)
  rw [show 1 + (wd.length - 1) = wd.length by omega] at hp
  obtain ⟨t, ht⟩ := hp
  have e : alS rs wd nm 1 = rwS rs wd nm 0 wd.length := by simp [alS]
  rw [← ht, e, List.getD_eq_getElem?_getD, List.getElem?_append_left (by rw [rwS_len]; omega)]
  unfold rwS
  rw [List.getElem?_map, List.getElem?_range (by omega)]
  simp only [Option.map_some, Option.getD_some]
  congr 1; omega
theorem nS_odd {rs : List R4} {wd : List Int} {i j : Nat} : ∀ k : Nat, 1 ≤ k → ((nS rs wd i j k).toNat.testBit 0 = true ↔ ∃ c, DC rs wd i j 0 c)
  | 0, h => absurd h (by omega)
  | 1, _ => by
    by_cases h : ∃ c, DC rs wd i j ((0 : Nat) : Int) c
    · rw [← nS_y h]
      exact ⟨fun _ => h, fun _ => by simp [nS, sB]⟩
    · rw [← nS_n h]
      exact ⟨fun h2 => by simp [nS] at h2, fun h2 => absurd h2 h⟩
  | k + 2, _ => by
    have ih := nS_odd (rs := rs) (wd := wd) (i := i) (j := j) (k + 1) (by omega)
    by_cases h : ∃ c, DC rs wd i j ((k + 1 : Nat) : Int) c
    · rw [← nS_y h, ← ih]
      have e : ((k + 1 : Nat) : Int).toNat = k + 1 := Int.toNat_natCast _
      unfold sB
      rw [Int.toNat_natCast, Nat.testBit_or, e, Nat.testBit_two_pow]
      simp
    · rw [← nS_n h]; exact ih
theorem chart_bit (g : gramV nm l rs) (h1 : 1 ≤ wd.length) : ((alS rs wd nm wd.length).getD (wd.length - 1) 0).tmod 2 = 1 ↔ 0 ≤ leastC rs wd 0 wd.length 0 := by
  have hr := nS_rng (rs := rs) (wd := wd) (i := 0) (j := wd.length) (k := nm.toNat) (by have := g.1; omega)
  rw [alS_top rs wd nm h1, leastC_iff g, ← nS_odd nm.toNat (by have := g.1; omega), Int.tmod_eq_emod_of_nonneg hr.1, Nat.testBit_zero]
  simp only [decide_eq_true_eq]
  omega

/-! ### As many -/
theorem sumN_pos {f : Nat → Int} : ∀ n, (∀ k, k < n → 0 ≤ f k) → (0 < sumN f n ↔ ∃ k, k < n ∧ 0 < f k)
  | 0, _ => by simp [sumN]
  | n + 1, h => by
    have ih := sumN_pos n fun k hk => h k (by omega)
    have h1 := h n (by omega)
    have h2 := sumN_nn (f := f) (n := n) fun k hk => h k (by omega)
    unfold sumN
    constructor
    · intro h3
      by_cases h4 : 0 < f n
      · exact ⟨n, by omega, h4⟩
      · obtain ⟨k, h5, h6⟩ := ih.1 (by omega)
        exact ⟨k, by omega, h6⟩
    · rintro ⟨k, h3, h4⟩
      by_cases e : k = n
      · subst e; omega
      · have := ih.2 ⟨k, by omega, h4⟩; omega
theorem cnt_pos : ∀ (n : Nat) {i j : Nat} {a : Int}, j - i ≤ n → i < j → j ≤ wd.length → (0 < cnt rs wd i j a ↔ ∃ c, DC rs wd i j a c)
  | 0, i, j, a, h, hij, _ => by omega
  | n + 1, i, j, a, h, hij, hj => by
    rw [cnt_eq hij]
    unfold SK
    rw [sumN_pos _ fun k _ => by
      split
      · unfold rc; split
        · split <;> omega
        · exact sumN_nn fun t _ => Int.mul_nonneg (cnt_nn _ _ _ _ _) (cnt_nn _ _ _ _ _)
      · omega]
    constructor
    · rintro ⟨k, hk, h1⟩
      by_cases ha : (rl rs k).1 = a
      · rw [if_pos ha] at h1
        unfold rc at h1
        by_cases h2 : (rl rs k).2.2.1 < 0
        · rw [if_pos h2] at h1
          by_cases h3 : j = i + 1 ∧ wd.getD i 0 = (rl rs k).2.1
          · obtain ⟨rfl, h4⟩ := h3
            exact ⟨_, ha ▸ DC.leaf i k hk (by omega) h2 h4⟩
          · rw [if_neg h3] at h1; omega
        · rw [if_neg h2, sumN_pos _ fun t _ => Int.mul_nonneg (cnt_nn _ _ _ _ _) (cnt_nn _ _ _ _ _)] at h1
          obtain ⟨t, ht, h3⟩ := h1
          have p1 : 0 < cnt rs wd i (i + 1 + t) (rl rs k).2.1 := by
            rcases Int.lt_or_eq_of_le (cnt_nn rs wd i (i + 1 + t) (rl rs k).2.1) with h9 | h9
            · exact h9
            · rw [← h9, Int.zero_mul] at h3; omega
          have p2 : 0 < cnt rs wd (i + 1 + t) j (rl rs k).2.2.1 := by
            rcases Int.lt_or_eq_of_le (cnt_nn rs wd (i + 1 + t) j (rl rs k).2.2.1) with h9 | h9
            · exact h9
            · rw [← h9, Int.mul_zero] at h3; omega
          obtain ⟨c1, d1⟩ := (cnt_pos n (by omega) (by omega) (by omega)).1 p1
          obtain ⟨c2, d2⟩ := (cnt_pos n (by omega) (by omega) hj).1 p2
          exact ⟨_, ha ▸ DC.node i (i + 1 + t) j k c1 c2 hk (by omega) d1 d2⟩
      · rw [if_neg ha] at h1; omega
    · rintro ⟨c, d⟩
      cases d with
      | leaf _ k h1 h2 h3 h4 => exact ⟨k, h1, by rw [if_pos rfl]; unfold rc; rw [if_pos h3, if_pos ⟨rfl, h4⟩]; omega⟩
      | node _ m _ k c1 c2 h1 h2 d1 d2 =>
        have e1 := d1.lt; have e2 := d2.lt
        refine ⟨k, h1, ?_⟩
        rw [if_pos rfl]; unfold rc
        rw [if_neg (by omega), sumN_pos _ fun t _ => Int.mul_nonneg (cnt_nn _ _ _ _ _) (cnt_nn _ _ _ _ _)]
        refine ⟨m - (i + 1), by omega, ?_⟩
        rw [show i + 1 + (m - (i + 1)) = m by omega]
        exact Int.mul_pos ((cnt_pos n (by omega) e1.1 (by omega)).2 ⟨c1, d1⟩) ((cnt_pos n (by omega) e2.1 hj).2 ⟨c2, d2⟩)

/-! ### As trees -/
def sumK (rs : List R4) : List Int → Int
  | [] => 0
  | x :: r => (rl rs x.toNat).2.2.2 + sumK rs r
def lvK (rs : List R4) (l : List Int) : List Int := (l.filter fun x => decide ((rl rs x.toNat).2.2.1 < 0)).map fun x => (rl rs x.toNat).2.1
theorem sumK_app (xs ys : List Int) : sumK rs (xs ++ ys) = sumK rs xs + sumK rs ys := by
  induction xs with
  | nil => simp [sumK]
  | cons x r ih => rw [List.cons_append, sumK, sumK, ih]; omega
theorem lvK_app (xs ys : List Int) : lvK rs (xs ++ ys) = lvK rs xs ++ lvK rs ys := by simp [lvK]
theorem take_cut {i m j : Nat} (h1 : i ≤ m) (h2 : m ≤ j) : (wd.drop i).take (m - i) ++ (wd.drop m).take (j - m) = (wd.drop i).take (j - i) := by
  obtain ⟨p, rfl⟩ : ∃ p, m = i + p := ⟨m - i, by omega⟩
  obtain ⟨q, rfl⟩ : ∃ q, j = i + p + q := ⟨j - (i + p), by omega⟩
  rw [show i + p - i = p by omega, show i + p + q - (i + p) = q by omega, show i + p + q - i = p + q by omega, List.take_add, List.drop_drop]
/-- What the rules of the first least tree tell. -/
theorem BT.tells (g : gramV nm l rs) {i j : Nat} {a : Int} {t : List Int} (h : BT rs wd i j a t) : (∃ c, Lst rs wd i j a c ∧ sumK rs t = c) ∧ (j ≤ wd.length → lvK rs t = (wd.drop i).take (j - i)) ∧ (∀ x ∈ t, 0 ≤ x ∧ x < rs.length) ∧ (rl rs (t.getD 0 0).toNat).1 = a := by
  induction h with
  | leaf i j a k m c h1 h2 =>
    have hd := h1.hc.dc h1.hk
    rw [h1.ha] at hd
    refine ⟨⟨c, ⟨hd, h1.le⟩, ?_⟩, fun hj => ?_, fun x hx => ?_, ?_⟩
    · rcases h1.hc with ⟨_, _, _, _, _, h5⟩ | ⟨h5, _⟩
      · simp only [sumK, Int.toNat_natCast]; omega
      · omega
    · rcases h1.hc with ⟨_, h3, h4, h5, h6, _⟩ | ⟨h5, _⟩
      · subst h3
        have e : (wd.drop i).take (i + 1 - i) = [wd.getD i 0] := by
          rw [show i + 1 - i = 1 by omega, List.drop_eq_getElem_cons (by omega), List.take_succ_cons, List.take_zero, List.getD_eq_getElem?_getD, List.getElem?_eq_getElem (by omega)]; rfl
        rw [e]
        simp only [lvK, List.filter_cons, List.filter_nil, Int.toNat_natCast, h2, decide_true, if_true, List.map_cons, List.map_nil]
        rw [h6]
      · omega
    · rw [List.mem_singleton] at hx; subst hx
      have := h1.hk; omega
    · show (rl rs ((k : Int)).toNat).1 = a
      rw [Int.toNat_natCast]; exact h1.ha
  | node i j a k m c l1 l2 h1 h2 h3 h4 i1 i2 =>
    have hd := h1.hc.dc h1.hk
    rw [h1.ha] at hd
    obtain ⟨⟨b1, e1, s1⟩, v1, r1, _⟩ := i1
    obtain ⟨⟨b2, e2, s2⟩, v2, r2, _⟩ := i2
    refine ⟨⟨c, ⟨hd, h1.le⟩, ?_⟩, fun hj => ?_, fun x hx => ?_, ?_⟩
    · rcases h1.hc with ⟨h5, _⟩ | ⟨_, c1, c2, d1, d2, hc⟩
      · omega
      · have q1 := e1.le _ d1; have q2 := e2.le _ d2
        have q3 := h1.le _ (h1.ha ▸ DC.node i m j k b1 b2 h1.hk h2 e1.d e2.d)
        rw [sumK, sumK_app, s1, s2, Int.toNat_natCast]; omega
    · have p1 := e1.d.lt; have p2 := e2.d.lt
      have e : lvK rs ((k : Int) :: (l1 ++ l2)) = lvK rs (l1 ++ l2) := by
        simp only [lvK]; rw [List.filter_cons_of_neg (by simp only [Int.toNat_natCast, decide_eq_true_eq]; omega)]
      rw [e, lvK_app, v1 (by omega), v2 hj]
      exact take_cut (by omega) (by omega)
    · rcases List.mem_cons.1 hx with rfl | hx
      · have := h1.hk; omega
      · rcases List.mem_append.1 hx with hx | hx
        · exact r1 x hx
        · exact r2 x hx
    · show (rl rs ((k : Int)).toNat).1 = a
      rw [Int.toNat_natCast]; exact h1.ha
/-- The same of the list of rules that is told. -/
theorem tree_tells (g : gramV nm l rs) (h : ∃ c, DC rs wd 0 wd.length a c) : sumK rs (treeL rs wd 0 wd.length a) = leastC rs wd 0 wd.length a ∧ lvK rs (treeL rs wd 0 wd.length a) = wd ∧
    (∀ x ∈ treeL rs wd 0 wd.length a, 0 ≤ x ∧ x < rs.length) ∧ (rl rs ((treeL rs wd 0 wd.length a).getD 0 0).toNat).1 = a ∧ (treeL rs wd 0 wd.length a).length + 1 = 2 * wd.length := by
  obtain ⟨c, d⟩ := h
  obtain ⟨t, ht⟩ := BT.ex g _ (Nat.le_refl _) d
  obtain ⟨⟨b, hb, s⟩, v, r, hd⟩ := ht.tells g
  have hl := ht.len
  rw [← ht.eq]
  refine ⟨by rw [s]; exact leastC_of hb.d hb.le, ?_, r, hd, by omega⟩
  rw [v (Nat.le_refl _), List.drop_zero, Nat.sub_zero, List.take_length]
end
end Go.WX
