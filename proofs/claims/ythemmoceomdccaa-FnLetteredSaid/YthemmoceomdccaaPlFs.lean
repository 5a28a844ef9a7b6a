/- Plain laws that the law on sources wants; no program. No condition. -/
import Derived.Test.YthemmoceomdccaaPlFx
import Derived.Test.YthemmoceomdccaaPlSo
namespace Go.WX
open Go
section
variable {L : Int} {k m : Nat}
theorem wordsL_in : ∀ n, ∀ w ∈ wordsL L n, ∀ x ∈ w, 0 ≤ x ∧ x ≤ L - 1
  | 0, w, h, x, hx => by simp [wordsL] at h; subst h; cases hx
  | n + 1, w, h, x, hx => by
    unfold wordsL growW at h
    obtain ⟨u, hu, hw⟩ := List.mem_flatMap.1 h
    unfold growOne at hw
    obtain ⟨q, hq, rfl⟩ := List.mem_map.1 hw
    have hq2 := List.mem_range.1 hq
    rcases List.mem_append.1 hx with h1 | h1
    · exact wordsL_in n u hu x h1
    · simp at h1; omega
theorem wordsP_in : ∀ w ∈ wordsP L k, ∀ x ∈ w, 0 ≤ x ∧ x ≤ L - 1 := fun w hw => by
  unfold wordsP at hw
  obtain ⟨q, _, h⟩ := List.mem_flatMap.1 hw
  exact wordsL_in q w h
theorem wordsL_mem : ∀ (n : Nat) (w : List Int), w.length = n → (∀ x ∈ w, 0 ≤ x ∧ x ≤ L - 1) → w ∈ wordsL L n
  | 0, w, h, _ => by
    have : w = [] := List.length_eq_zero_iff.1 h
    subst this; simp [wordsL]
  | n + 1, w, h, hx => by
    have hne : w ≠ [] := by intro e; subst e; simp at h
    have e := List.dropLast_concat_getLast hne
    have hl := hx _ (List.getLast_mem hne)
    have hd := wordsL_mem n w.dropLast (by simp [h]) (fun x h9 => hx x (List.dropLast_subset w h9))
    unfold wordsL growW
    refine List.mem_flatMap.2 ⟨_, hd, ?_⟩
    unfold growOne
    refine List.mem_map.2 ⟨(w.getLast hne).toNat, List.mem_range.2 (by omega), ?_⟩
    rw [Int.toNat_of_nonneg hl.1]; exact e
theorem wordsP_mem {w : List Int} (h : w.length < k) (hx : ∀ x ∈ w, 0 ≤ x ∧ x ≤ L - 1) : w ∈ wordsP L k := by
  unfold wordsP
  exact List.mem_flatMap.2 ⟨w.length, List.mem_range.2 h, wordsL_mem _ w rfl hx⟩
end
section
variable {cs : List C4} {c : C4} {xs ws : List Int} {L m : Int} {k : Nat}
theorem fs_list (hL : 1 ≤ L ∧ L ≤ 4) (hl : cs.length ≤ 8) (h : ∀ x ∈ cs, drC x L) : listB cs L = true := by
  simp only [listB, Bool.and_eq_true, decide_eq_true_eq, List.all_eq_true]
  exact ⟨⟨hl, hL⟩, fun x hx => (h x hx).1⟩
theorem fs_pln (hl : listB cs L = true) (h : ∀ x ∈ cs, x.1 = [] ∧ x.2.2.2 = []) : plnB cs L = true := by
  unfold plnB platB
  rw [hl, Bool.true_and, decide_eq_true_eq]
  have e := idxB_no (p := platP cs) (n := cs.length) (fun j hj => by
    obtain ⟨h1, h2⟩ := h (cs.getD j d4) (getD_mem hj)
    unfold platP; rw [h1, h2]; rfl)
  omega
/-- The words that are listed lead to the word. -/
theorem fs_sel {f : List Int → Option (List Int)} (hk : k < (srcL f xs L m).length) : ∃ w, (srcL f xs L m).getD k [] = w ∧ w ∈ wordsP L (m.toNat + 1) ∧ f w = some xs := by
  have hm : (srcL f xs L m).getD k [] ∈ srcL f xs L m := getD_mem hk
  refine ⟨_, rfl, ?_⟩
  revert hm
  generalize (srcL f xs L m).getD k [] = w
  intro hm
  unfold srcL sel at hm
  obtain ⟨q, hq, rfl⟩ := List.mem_map.1 hm
  obtain ⟨h1, h2⟩ := List.mem_filter.1 hq
  have h3 := List.mem_range.1 h1
  refine ⟨getD_mem h3, ?_⟩
  unfold leadP at h2
  simp only [Bool.and_eq_true, decide_eq_true_eq] at h2
  revert h2
  generalize f ((wordsP L (m.toNat + 1)).getD q []) = r
  rintro ⟨h4, h5⟩
  cases r with
  | none => cases h4
  | some y => rw [← h5]; rfl
theorem fs_src (hL : 1 ≤ L ∧ L ≤ 4) (hl : listB cs L = true) (hm : m ≤ 5) (hk : k < (srcL (runF cs) xs L m).length) : runR cs ((srcL (runF cs) xs L m).getD k []) L = some xs := by
  obtain ⟨w, h1, h2, h3⟩ := fs_sel hk
  rw [h1, runR_y hl (longB_mk hL (by have := wordsP_each w h2; omega) (wordsP_in w h2)), h3]
theorem fs_ord : ordB c c L m = false := ord_n4 (fun j _ => pO_n3 rfl)
theorem fs_ordL : ordL c c L m = [] := ordL_n fs_ord
theorem fs_step (h : stepI cs ws < 0) (hk : k < cs.length) : firstI (cs.getD k d4) ws < 0 := by
  have := idxB_neg h k hk
  simpa using this
theorem fs_norm (hl : ∀ x ∈ cs, chB x L = true) : ∀ (M : Nat) (wd : List Int) (r : List Int × Int), longB wd L = true → normF cs M wd = some r → longB r.1 L = true ∧ stepI cs r.1 < 0 := by
  have hput : ∀ wd, longB wd L = true → 0 ≤ stepI cs wd → (putL (cs.getD (stepI cs wd).toNat d4) wd (firstI (cs.getD (stepI cs wd).toNat d4) wd)).length ≤ 24 → longB (putL (cs.getD (stepI cs wd).toNat d4) wd (firstI (cs.getD (stepI cs wd).toNat d4) wd)) L = true := by
    intro wd hw hs h24
    have hc := hl _ (getD_mem (d := d4) (stepI_first hs).1)
    refine longB_mk (chB_y hc).2 h24 (fun x hx => ?_)
    unfold putL at hx
    simp only [List.mem_append] at hx
    rcases hx with (hx | hx) | hx
    · exact longB_mem hw x (List.mem_of_mem_take hx)
    · exact chB_give hc x hx
    · exact longB_mem hw x (List.mem_of_mem_drop hx)
  intro M
  induction M with
  | zero =>
    intro wd r hw hr
    rcases Int.lt_or_le (stepI cs wd) 0 with e | e
    · rw [normF_none e] at hr; cases hr; exact ⟨hw, e⟩
    · rw [normF_zero e] at hr; cases hr
  | succ M ih =>
    intro wd r hw hr
    rcases Int.lt_or_le (stepI cs wd) 0 with e | e
    · rw [normF_none e] at hr; cases hr; exact ⟨hw, e⟩
    · rw [normF_succ e] at hr
      split at hr
      · rename_i h24
        cases hq : normF cs M (putL (cs.getD (stepI cs wd).toNat d4) wd (firstI (cs.getD (stepI cs wd).toNat d4) wd)) with
        | none => rw [hq] at hr; cases hr
        | some q => rw [hq] at hr; cases hr; exact ih _ q (hput wd hw e h24) hq
      · cases hr
theorem fs_none (hb : nB (nrmR cs ws L m) = true) (hk : k < cs.length) : (chB (cs.getD k d4) L && longB (nL (nrmR cs ws L m)) L) = true ∧ (placesL (cs.getD k d4) (nL (nrmR cs ws L m)) (nL (nrmR cs ws L m)).length).length = 0 := by
  unfold nrmR at hb ⊢
  split at hb
  · rename_i h
    rw [if_pos h]
    have hc : ∀ x ∈ cs, chB x L = true := by
      have := (pln_y h.1).1
      simp only [listB, Bool.and_eq_true, List.all_eq_true] at this; exact this.2
    cases hq : normF cs m.toNat ws with
    | none => rw [hq] at hb; cases hb
    | some r =>
      obtain ⟨h1, h2⟩ := fs_norm hc _ _ _ h.2.1 hq
      refine ⟨?_, (places_first _ _).1.2 (fs_step h2 hk)⟩
      rw [hc _ (getD_mem hk)]; show (true && longB r.1 L) = true; rw [h1]; rfl
  · cases hb
end
end Go.WX
