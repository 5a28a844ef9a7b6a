/- Plain laws on partners of calls, and on drawn numbers; no program. No condition. -/
import Derived.Test.YtliakkhlgflbcaaPlP
import Derived.Laws.Bits64b
namespace Go.WX
open Go
theorem wrapU_rng (z : Int) : 0 ≤ IntKind.u64.wrap z ∧ IntKind.u64.wrap z < 18446744073709551616 := by rw [IntKind.wrap_u64]; omega
theorem and255 {a : Int} (h : 0 ≤ a ∧ a < 18446744073709551616) : 0 ≤ bits .and .u64 a 255 ∧ bits .and .u64 a 255 ≤ 255 := by
  have h1 := bits_and_u64_nat a.toNat 255 (by omega) (by omega)
  have e : a.toNat &&& 255 = a.toNat % 256 := Nat.and_two_pow_sub_one_eq_mod a.toNat 8
  have e2 : ((a.toNat : Nat) : Int) = a := by omega
  rw [e, e2] at h1
  have e3 : bits .and .u64 a 255 = ((a.toNat % 256 : Nat) : Int) := h1
  rw [e3]; omega
theorem rnd255 (z : Int) : 0 ≤ bits .and .u64 (IntKind.u64.wrap z / 2 ^ (40 : Int).toNat) 255 ∧ bits .and .u64 (IntKind.u64.wrap z / 2 ^ (40 : Int).toNat) 255 ≤ 255 := by
  have h := wrapU_rng z
  have e : (2 : Int) ^ (40 : Int).toNat = 1099511627776 := by decide
  rw [e]
  exact and255 (by omega)
theorem getD_P {l : List Int} {i : Nat} {P : Int → Prop} (h : ∀ x ∈ l, P x) (hi : i < l.length) : P (l.getD i 0) := h _ (getD_mem hi)

structure SymP (kd wd : List Int) (k : Nat) : Prop where
  op : ∀ x ∈ (parS kd wd k).2, (parS kd wd k).1.getD x.toNat 0 = -1
  so : (parS kd wd k).2.Pairwise (· < ·)
  pr : ∀ q : Nat, q < k → (parS kd wd k).1.getD q 0 = -1 ∨ ((0 ≤ (parS kd wd k).1.getD q 0 ∧ (parS kd wd k).1.getD q 0 < k) ∧ (parS kd wd k).1.getD ((parS kd wd k).1.getD q 0).toNat 0 = q ∧
    ((kiP kd wd q = 2 ∧ kiP kd wd ((parS kd wd k).1.getD q 0).toNat = 1 ∧ (parS kd wd k).1.getD q 0 < q) ∨ (kiP kd wd q = 1 ∧ kiP kd wd ((parS kd wd k).1.getD q 0).toNat = 2 ∧ (q : Int) < (parS kd wd k).1.getD q 0)))
theorem app_lt {l : List Int} {q : Nat} {x : Int} (h : q < l.length) : (l ++ [x]).getD q 0 = l.getD q 0 := by
  rw [List.getD_eq_getElem?_getD, List.getElem?_append_left h, ← List.getD_eq_getElem?_getD]
theorem app_eq {l : List Int} {k : Nat} {x : Int} (h : l.length = k) : (l ++ [x]).getD k 0 = x := by
  rw [List.getD_eq_getElem?_getD, List.getElem?_append_right (by omega), h]; simp
theorem take_lt_last {l : List Int} (h : l.Pairwise (· < ·)) (h0 : 0 < l.length) : ∀ x ∈ l.take (((l.length : Nat) : Int) - 1).toNat, x < laI l := by
  intro x hx
  obtain ⟨i, hi, rfl⟩ := List.mem_iff_getElem.1 hx
  have hi' : i < l.length - 1 := by simp at hi; omega
  have e1 : laI l = l[l.length - 1]'(by omega) := by
    have : (((l.length : Nat) : Int) - 1).toNat = l.length - 1 := by omega
    unfold laI; rw [this, List.getD_eq_getElem?_getD, List.getElem?_eq_getElem (by omega)]; rfl
  rw [e1, List.getElem_take]
  exact List.pairwise_iff_getElem.1 h i (l.length - 1) (by omega) (by omega) hi'
theorem SymP.step {kd wd : List Int} {k : Nat} (h : SymP kd wd k) : SymP kd wd (k + 1) := by
  have hI := InvP.all kd wd k
  have hl1 := hI.l1
  by_cases h1 : kiP kd wd k = 1
  · have e := par1 h1
    refine ⟨fun x hx => ?_, ?_, fun q hq => ?_⟩
    · rw [e] at hx ⊢
      rcases List.mem_append.1 hx with hx | hx
      · have := (hI.el x hx).1
        show ((parS kd wd k).1 ++ [-1]).getD x.toNat 0 = -1
        rw [app_lt (by omega)]; exact h.op x hx
      · simp at hx; subst hx
        show ((parS kd wd k).1 ++ [-1]).getD ((k : Int)).toNat 0 = -1
        rw [Int.toNat_natCast]; exact app_eq hl1
    · rw [e]
      show ((parS kd wd k).2 ++ [(k : Int)]).Pairwise (· < ·)
      rw [List.pairwise_append]
      exact ⟨h.so, by simp, fun a ha b hb => by simp at hb; subst hb; exact (hI.el a ha).1.2⟩
    · rw [e]
      show (((parS kd wd k).1 ++ [-1]).getD q 0 = -1) ∨ _
      by_cases hqk : q = k
      · left; rw [hqk]; exact app_eq hl1
      · have e1 : ((parS kd wd k).1 ++ [-1]).getD q 0 = (parS kd wd k).1.getD q 0 := app_lt (by omega)
        rcases h.pr q (by omega) with h2 | ⟨⟨a1, a2⟩, a3, a4⟩
        · left; rw [e1]; exact h2
        · right
          dsimp only
          simp only [e1]
          refine ⟨⟨a1, by omega⟩, ?_, a4⟩
          rw [app_lt (by omega)]; exact a3
  · by_cases h2 : kiP kd wd k = 2 ∧ 0 < (parS kd wd k).2.length
    · have hl := hI.last h2.2
      have hmem : laI (parS kd wd k).2 ∈ (parS kd wd k).2 := getD_mem (by omega)
      have e := par2 h2.1 h2.2
      have hlt := take_lt_last h.so h2.2
      -- the list of partners behind the step
      have hset : ∀ q : Nat, q < k + 1 → (parS kd wd (k + 1)).1.getD q 0 = if q = k then laI (parS kd wd k).2 else if q = (laI (parS kd wd k).2).toNat then (k : Int) else (parS kd wd k).1.getD q 0 := fun q hq => by
        rw [e]
        show ((((parS kd wd k).1 ++ [-1]).set k (laI (parS kd wd k).2)).set (laI (parS kd wd k).2).toNat (k : Int)).getD q 0 = _
        have hlk : (laI (parS kd wd k).2).toNat ≠ k := by omega
        by_cases hqk : q = k
        · rw [if_pos hqk, hqk, gs_ne hlk, gs_eq (by rw [List.length_append, hl1]; simp)]
        · rw [if_neg hqk]
          by_cases hql : q = (laI (parS kd wd k).2).toNat
          · rw [if_pos hql, hql, gs_eq (by rw [List.length_set, List.length_append, hl1]; simp only [List.length_cons, List.length_nil]; omega)]
          · rw [if_neg hql, gs_ne (Ne.symm hql), gs_ne (Ne.symm hqk), app_lt (by omega)]
      have hop := h.op _ hmem
      refine ⟨fun x hx => ?_, ?_, fun q hq => ?_⟩
      · rw [e] at hx
        have hx' : x ∈ (parS kd wd k).2.take (((((parS kd wd k).2.length : Nat)) : Int) - 1).toNat := hx
        have hxm := List.mem_of_mem_take hx'
        have hxe := (hI.el x hxm).1
        have hxl := hlt x hx'
        rw [hset x.toNat (by omega), if_neg (by omega), if_neg (by omega)]; exact h.op x hxm
      · rw [e]
        exact h.so.sublist (List.take_sublist _ _)
      · rw [hset q hq]
        by_cases hqk : q = k
        · right
          subst hqk
          rw [if_pos rfl, hset _ (by omega), if_neg (by omega), if_pos rfl]
          exact ⟨⟨hl.1, by omega⟩, rfl, .inl ⟨h2.1, hl.2.2, hl.2.1⟩⟩
        · rw [if_neg hqk]
          by_cases hql : q = (laI (parS kd wd k).2).toNat
          · right
            rw [if_pos hql, Int.toNat_natCast, hset k (by omega), if_pos rfl]
            have : kiP kd wd q = 1 := by rw [hql]; exact hl.2.2
            exact ⟨⟨by omega, by omega⟩, by omega, .inr ⟨this, h2.1, by omega⟩⟩
          · rw [if_neg hql]
            rcases h.pr q (by omega) with h3 | ⟨⟨a1, a2⟩, a3, a4⟩
            · exact .inl h3
            · right
              have n1 : ((parS kd wd k).1.getD q 0).toNat ≠ (laI (parS kd wd k).2).toNat := fun he => by rw [he, hop] at a3; omega
              rw [hset _ (by omega), if_neg (by omega), if_neg n1]
              exact ⟨⟨a1, by omega⟩, a3, a4⟩
    · have e := par0 h1 h2
      refine ⟨fun x hx => ?_, ?_, fun q hq => ?_⟩
      · rw [e] at hx ⊢
        have := (hI.el x hx).1
        show ((parS kd wd k).1 ++ [-1]).getD x.toNat 0 = -1
        rw [app_lt (by omega)]; exact h.op x hx
      · rw [e]; exact h.so
      · rw [e]
        show (((parS kd wd k).1 ++ [-1]).getD q 0 = -1) ∨ _
        by_cases hqk : q = k
        · left; rw [hqk]; exact app_eq hl1
        · have e1 : ((parS kd wd k).1 ++ [-1]).getD q 0 = (parS kd wd k).1.getD q 0 := app_lt (by omega)
          rcases h.pr q (by omega) with h2 | ⟨⟨a1, a2⟩, a3, a4⟩
          · left; rw [e1]; exact h2
          · right
            dsimp only
            simp only [e1]
            refine ⟨⟨a1, by omega⟩, ?_, a4⟩
            rw [app_lt (by omega)]; exact a3
theorem SymP.all (kd wd : List Int) : ∀ k, SymP kd wd k
  | 0 => ⟨fun x hx => absurd hx (by simp [parS, itN]), by simp [parS, itN], fun q hq => absurd hq (Nat.not_lt_zero _)⟩
  | k + 1 => (SymP.all kd wd k).step
@[reducible] def k3 : List Int := [0, 1, 2]
theorem ki3 {wd : List Int} (h : ∀ x ∈ wd, 0 ≤ x ∧ x ≤ 2) {i : Nat} (hi : i < wd.length) : kiP [0, 1, 2] wd i = wd.getD i 0 := by
  have h1 := getD_P h hi
  have : wd.getD i 0 = 0 ∨ wd.getD i 0 = 1 ∨ wd.getD i 0 = 2 := by omega
  unfold kiP
  rcases this with e | e | e <;> rw [e] <;> rfl
theorem ok3 {wd : List Int} (h : ∀ x ∈ wd, 0 ≤ x ∧ x ≤ 2) (hl : wd.length ≤ 12) : okK wd [0, 1, 2] = true := by
  have h1 : allIn wd 0 2 = true := by
    unfold allIn; rw [List.all_eq_true]; intro x hx; exact decide_eq_true (h x hx)
  have h2 : (wd.length : Int) ≤ 12 := by omega
  simp [okK, isWordB, wordB, h1, h2]; decide
/-- What the law asks of one letter. -/
theorem callsL {wd : List Int} (h : ∀ x ∈ wd, 0 ≤ x ∧ x ≤ 2) {i : Nat} (hi : i < wd.length) :
    ((parL [0, 1, 2] wd).getD i 0 = -1 ∨ ((0 ≤ (parL [0, 1, 2] wd).getD i 0 ∧ (parL [0, 1, 2] wd).getD i 0 < wd.length) ∧ (parL [0, 1, 2] wd).getD ((parL [0, 1, 2] wd).getD i 0).toNat 0 = i ∧
      wd.getD i 0 + wd.getD ((parL [0, 1, 2] wd).getD i 0).toNat 0 = 3 ∧ (wd.getD i 0 = 2 ↔ (parL [0, 1, 2] wd).getD i 0 < i))) ∧
    (wd.getD i 0 = 1 → dpP [0, 1, 2] wd (i + 1) = dpP [0, 1, 2] wd i + 1) ∧
    (wd.getD i 0 = 2 → (parL [0, 1, 2] wd).getD i 0 ≠ -1 → dpP [0, 1, 2] wd (i + 1) = dpP [0, 1, 2] wd i - 1) ∧
    (wd.getD i 0 = 2 → (parL [0, 1, 2] wd).getD i 0 = -1 → dpP [0, 1, 2] wd i = 0 ∧ dpP [0, 1, 2] wd (i + 1) = dpP [0, 1, 2] wd i) ∧
    (wd.getD i 0 = 0 → dpP [0, 1, 2] wd (i + 1) = dpP [0, 1, 2] wd i) := by
  have hk := ki3 h hi
  have hS := (SymP.all [0, 1, 2] wd wd.length).pr i hi
  have hN := (InvP.all [0, 1, 2] wd wd.length).nn i
  refine ⟨?_, fun h1 => dp1 (by rw [hk]; exact h1), fun h1 h2 => ?_, fun h1 h2 => ?_, fun h1 => dp0 (by rw [hk]; omega) (fun q => by rw [hk] at q; omega)⟩
  · rcases hS with h1 | ⟨⟨a1, a2⟩, a3, a4⟩
    · exact .inl h1
    · right
      have hk2 := ki3 h (i := ((parS [0, 1, 2] wd wd.length).1.getD i 0).toNat) (by omega)
      rw [hk, hk2] at a4
      unfold parL
      refine ⟨⟨a1, a2⟩, a3, ?_, ?_⟩ <;> omega
  · have h3 := (parL_at hi (by rw [hk]; omega)).1 (by unfold parL at *; omega)
    exact dp2 h3.1 h3.2
  · have hno : ¬ (kiP [0, 1, 2] wd i = 2 ∧ 0 < (parS [0, 1, 2] wd i).2.length) := fun q => by
      have := (parL_at hi (by rw [hk]; omega)).2 q; omega
    have : (parS [0, 1, 2] wd i).2.length = 0 := by
      rcases Nat.eq_zero_or_pos (parS [0, 1, 2] wd i).2.length with e | e
      · exact e
      · exact absurd ⟨by rw [hk]; exact h1, e⟩ hno
    exact ⟨by unfold dpP; omega, dp0 (by rw [hk]; omega) hno⟩
theorem depL_get {kd wd : List Int} {i n : Nat} (h : i < n) : (depL kd wd n).getD i 0 = dpP kd wd (i + 1) := by simp [depL, List.getD_eq_getElem?_getD, h]
theorem dp_zero (kd wd : List Int) : dpP kd wd 0 = 0 := rfl
theorem rem3 {p : Int} (h : 0 ≤ p) : 0 ≤ p.tmod 3 ∧ p.tmod 3 ≤ 2 := by have := tmod_in h (q := 3) (by decide); omega
theorem rem13 {p : Int} (h : 0 ≤ p) : 0 ≤ p.tmod 13 ∧ p.tmod 13 ≤ 12 := by have := tmod_in h (q := 13) (by decide); omega
def atB (xs : List Int) : Int := if 0 < xs.length then (xs.getD 0 0).tmod 13 else 11
theorem atB_rng {xs : List Int} (h : ∀ x ∈ xs, 0 ≤ x ∧ x ≤ 255) : 0 ≤ atB xs ∧ atB xs ≤ 12 := by
  unfold atB
  split
  · rename_i h0; exact rem13 (getD_P h h0).1
  · decide
theorem atB_yes {xs : List Int} (h : 0 < xs.length) : atB xs = (xs.getD 0 0).tmod 13 := if_pos h
theorem atB_no {xs : List Int} (h : ¬ 0 < xs.length) : atB xs = 11 := if_neg h
end Go.WX
