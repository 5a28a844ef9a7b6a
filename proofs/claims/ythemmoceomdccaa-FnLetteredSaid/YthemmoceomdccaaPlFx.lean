/- Plain laws that the law on changes wants at its ends; no program. No condition. -/
import Derived.Test.YthemmoceomdccaaPlDr
import Derived.Test.YthemmoceomdccaaPlL
import Derived.Test.YthemmoceomdccaaLibV
namespace Go.WX
open Go
section
variable {c c2 : C4} {ws : List Int} {L wk m : Int}
theorem fx_len (hd : drC c L) (h : 0 ≤ firstI c ws) : (putL c ws (firstI c ws)).length ≤ ws.length + 1 := by
  have hf := fits_y (first_fits h)
  have h1 := put_len hf.1 hf.2
  have h2 := (chB_y hd.1).1.2.1
  have h3 := hd.2.2
  omega
theorem fx_cf (hd : drC c L) (hw : longB ws L = true) (h5 : ws.length ≤ 20) : cfB c ws L = true := by
  refine cf_y (by rw [hd.1, hw]; rfl) ?_
  by_cases h : firstI c ws < 0
  · rw [cfL_no h]; omega
  · rw [cfL_put h]; have := fx_len hd (Int.not_lt.1 h); omega
theorem fx_list (hd : drC c L) (hd2 : drC c2 L) : listB [c, c2] L = true := by
  have h := (chB_y hd.1).2
  simp only [listB, List.all_cons, List.all_nil, hd.1, hd2.1, Bool.and_true, Bool.and_self, List.length_cons, List.length_nil]
  rw [decide_eq_true (by omega), decide_eq_true h]; rfl
theorem fx_run (hd : drC c L) (hd2 : drC c2 L) (hw : longB ws L = true) (h6 : ws.length ≤ 6) : runR [c, c2] ws L = some (allL c2 (allL c ws)) := by
  rw [runR_y (fx_list hd hd2) hw]; exact (dr_run hd hd2 hw h6).1
theorem fx_runNil (hd : drC c L) (hd2 : drC c2 L) : runR [c, c2] [] L = some [] := by
  have h := (chB_y hd.1).2
  exact fx_run hd hd2 (longB_mk h (by simp) (by simp)) (by simp)
theorem fx_sh (hd : drC c L) (hd2 : drC c2 L) (hw : longB ws L = true) (h6 : ws.length ≤ 6) (hk : 1 ≤ wk ∧ wk ≤ 8) : shB [c, c2] [ws, []] L wk = true := by
  simp only [shB, fx_list hd hd2, List.all_cons, List.all_nil, fx_run hd hd2 hw h6, fx_runNil hd hd2, List.length_cons, List.length_nil]
  rw [decide_eq_true (by omega), decide_eq_true hk]; rfl
theorem fx_shW (hd : drC c L) (hd2 : drC c2 L) (hw : longB ws L = true) (h6 : ws.length ≤ 6) : ([ws, []].map fun w => rL (runR [c, c2] w L)) = [allL c2 (allL c ws), []] := by
  simp only [List.map_cons, List.map_nil, fx_run hd hd2 hw h6, fx_runNil hd hd2]; rfl
theorem fx_rest (hc : 1 ≤ c.2.1.length) (h : ∀ j, j < ws.length → fitsB c ws (j : Int) = false) : ∀ n a, ws.length - a = n → a ≤ ws.length → restL c ws a = ws.drop a
  | 0, a, hn, ha => by rw [rest_end (by omega), List.drop_eq_nil_of_le (by omega)]
  | n + 1, a, hn, ha => by
    rw [rest_no hc (by omega) (h a (by omega)), fx_rest hc h n (a + 1) (by omega) (by omega)]
    rw [List.drop_eq_getElem_cons (show a < ws.length by omega)]
    congr 1
    simp [List.getD_eq_getElem?_getD, show a < ws.length from by omega]
theorem fx_none (hd : drC c L) (h : firstI c ws < 0) : allL c ws = ws := by
  have := fx_rest (chB_y hd.1).1.2.1.1 (idxB_neg h) _ 0 rfl (by omega)
  rw [List.drop_zero] at this; exact this
theorem fx_pos (h : 0 ≤ firstI c ws) (hb : nB (endR c ws L m) = true) : 0 < nT (endR c ws L m) := by
  unfold endR at hb ⊢
  split at hb
  · rename_i hh
    rw [if_pos hh]
    have hs : 0 ≤ stepI [c] ws := by rw [stepI_y h]; omega
    generalize m.toNat = M at hb ⊢
    cases M with
    | zero => rw [normF_zero hs] at hb; cases hb
    | succ M =>
      rw [normF_succ hs] at hb ⊢
      split at hb
      · rename_i hl
        rw [if_pos hl]
        have key : ∀ (M : Nat) (wd : List Int), ∀ r, normF [c] M wd = some r → 0 ≤ r.2 := by
          intro M
          induction M with
          | zero =>
            intro wd r hr
            rcases Int.lt_or_le (stepI [c] wd) 0 with e | e
            · rw [normF_none e] at hr; cases hr; exact Int.le_refl _
            · rw [normF_zero e] at hr; cases hr
          | succ M ih =>
            intro wd r hr
            rcases Int.lt_or_le (stepI [c] wd) 0 with e | e
            · rw [normF_none e] at hr; cases hr; exact Int.le_refl _
            · rw [normF_succ e] at hr
              split at hr
              · cases hq : normF [c] M (putL ([c].getD (stepI [c] wd).toNat d4) wd (firstI ([c].getD (stepI [c] wd).toNat d4) wd)) with
                | none => rw [hq] at hr; cases hr
                | some q => rw [hq] at hr; cases hr; have := ih _ _ hq; show 0 ≤ q.2 + 1; omega
              · cases hr
        cases hq : normF [c] M (putL ([c].getD (stepI [c] ws).toNat d4) ws (firstI ([c].getD (stepI [c] ws).toNat d4) ws)) with
        | none => rw [hq] at hb; cases hb
        | some q => have := key _ _ _ hq; show 0 < q.2 + 1; omega
      · cases hb
  · cases hb
theorem fx_first (h : (placesL c ws ws.length).length ≠ 0) : 0 ≤ firstI c ws ∧ (placesL c ws ws.length).getD 0 0 = firstI c ws := by
  have h1 := places_first c ws
  have h2 : 0 ≤ firstI c ws := Int.not_lt.1 (fun h9 => h (h1.1.2 h9))
  exact ⟨h2, h1.2 h2⟩
theorem fx_want (h : (placesL c ws ws.length).length ≠ 0) : ws.take ((placesL c ws ws.length).getD 0 0).toNat ++ c.2.2.1 ++ ws.drop ((placesL c ws ws.length).getD 0 0 + c.2.1.length).toNat = cfL c ws := by
  obtain ⟨h1, h2⟩ := fx_first h
  rw [h2, cfL_put (Int.not_lt.2 h1)]; rfl
end
section
variable {c : C4} {ws : List Int} {k : Nat}
theorem fx_f3 (h1 : thereB ws c.2.1 (k : Int) = true) (h2 : thereB ws c.1 ((k : Int) - c.1.length) = true) : thereB ws c.2.2.2 ((k : Int) + c.2.1.length) = fitsB c ws (k : Int) := by unfold fitsB; rw [h1, h2]; rfl
theorem fx_n1 (h1 : thereB ws c.2.1 (k : Int) = false) : false = fitsB c ws (k : Int) := by unfold fitsB; rw [h1]; simp
theorem fx_n2 (h2 : thereB ws c.1 ((k : Int) - c.1.length) = false) : false = fitsB c ws (k : Int) := by unfold fitsB; rw [h2]; simp
theorem fx_y1 (h : ¬ (placesL c ws k).length < (placesL c ws ws.length).length) : false = decide ((placesL c ws k).length < (placesL c ws ws.length).length ∧ (placesL c ws ws.length).getD (placesL c ws k).length 0 = (k : Int)) := (decide_eq_false (fun hh => h hh.1)).symm
theorem fx_y2 (h : (placesL c ws k).length < (placesL c ws ws.length).length) : decide ((placesL c ws ws.length).getD (placesL c ws k).length 0 = (k : Int)) = decide ((placesL c ws k).length < (placesL c ws ws.length).length ∧ (placesL c ws ws.length).getD (placesL c ws k).length 0 = (k : Int)) := decide_eq_decide.2 ⟨fun hh => ⟨h, hh⟩, fun hh => hh.2⟩
theorem fx_dead {b y : Bool} (hk : k < ws.length) (hb : b = fitsB c ws (k : Int)) (hy : y = decide ((placesL c ws k).length < (placesL c ws ws.length).length ∧ (placesL c ws ws.length).getD (placesL c ws k).length 0 = (k : Int))) (hc : ¬ b = y) : False := by
  apply hc
  subst hb; subst hy
  cases hf : fitsB c ws (k : Int)
  · exact (decide_eq_false (place_not hk hf)).symm
  · exact (decide_eq_true (place_at hk hf)).symm
theorem fx_s1 (h : fitsB c ws (k : Int) = true) : ((placesL c ws k).length : Int) + 1 = ((placesL c ws (k + 1)).length : Int) := by rw [← places_y h]; simp
theorem fx_s2 (h : fitsB c ws (k : Int) = false) : ((placesL c ws k).length : Int) = ((placesL c ws (k + 1)).length : Int) := by rw [← places_n h]
theorem fx_rng (h : (placesL c ws ws.length).length ≠ 0) : 0 ≤ (placesL c ws ws.length).getD 0 0 ∧ (placesL c ws ws.length).getD 0 0 + c.2.1.length ≤ ws.length := by
  obtain ⟨h1, h2⟩ := fx_first h
  rw [h2]; exact fits_y (first_fits h1)
theorem fx_no (h : (placesL c ws ws.length).length = 0) : firstI c ws < 0 := (places_first c ws).1.1 h
end
theorem two_of {cs : List C4} (h : (cs.length : Int) = 2) : ∃ c c2, cs = [c, c2] := by
  match cs, h with
  | [a, b], _ => exact ⟨a, b, rfl⟩
  | [], h => simp at h
  | [a], h => simp at h
  | a :: b :: d :: r, h => simp at h; omega
/-- The values of an element of an owned list of changes read as its lists, as long as the inner rows last. -/
theorem Osn.chAt {w : World} {og : Option Nat} {v : Value} {qs : List H4} {os : List (Option Nat)} {css : List C4} (h : Osn 4 gH4 w og v qs) (k : Inn w os (qs.flatMap gH4) (css.flatMap gC4)) {i : Nat} (hi : i < css.length) :
    ∃ p v0 v1 v2 v3, EP v i 4 p ∧ Cells w p [v0, v1, v2, v3] ∧ ∀ w', Inn w' os (qs.flatMap gH4) (css.flatMap gC4) → Rd EI w' v0 (css.getD i d4).1 ∧ Rd EI w' v1 (css.getD i d4).2.1 ∧ Rd EI w' v2 (css.getD i d4).2.2.1 ∧ Rd EI w' v3 (css.getD i d4).2.2.2 := by
  have hl : qs.length = css.length := by have := k.lv; rw [flatH_len, flatC_len] at this; omega
  obtain ⟨p, cs, h1, h2, h3⟩ := h.rd.at (i := i) (by omega) nH4
  have h4 : cs = gH4 (qs.getD i nH4) := h3
  subst h4
  refine ⟨p, vSH (qs.getD i nH4).1, vSH (qs.getD i nH4).2.1, vSH (qs.getD i nH4).2.2.1, vSH (qs.getD i nH4).2.2.2, h1, h2, fun w' k' => ?_⟩
  have r : ∀ j, j < 4 → Rd EI w' ((gH4 (qs.getD i nH4)).getD j (.slice none 0 0)) ((gC4 (css.getD i d4)).getD j []) := fun j hj => by
    have := k'.rd (j := i * 4 + j) (by rw [flatC_len]; omega)
    rw [flatC_get hi hj, flatH_get (by omega) hj] at this; exact this
  exact ⟨r 0 (by decide), r 1 (by decide), r 2 (by decide), r 3 (by decide)⟩
end Go.WX
