/- Plain laws on calls and their partners; no program. No condition. -/
import Derived.Test.YtliakkhlgflbcaaPlA
import Derived.Test.YtliakkhlgflbcaaPlZ
namespace Go.WX
open Go
@[reducible] def kiP (kd wd : List Int) (k : Nat) : Int := kd.getD (wd.getD k 0).toNat 0
@[reducible] def laI (op : List Int) : Int := op.getD (((op.length : Nat) : Int) - 1).toNat 0
def stepP (kd wd : List Int) (k : Nat) (st : List Int × List Int) : List Int × List Int :=
  if kiP kd wd k = 1 then (st.1 ++ [-1], st.2 ++ [(k : Int)])
  else if kiP kd wd k = 2 ∧ 0 < st.2.length then (((st.1 ++ [-1]).set k (laI st.2)).set (laI st.2).toNat (k : Int), st.2.take (((st.2.length : Nat) : Int) - 1).toNat)
  else (st.1 ++ [-1], st.2)
def parS (kd wd : List Int) (k : Nat) : List Int × List Int := itN (stepP kd wd) k ([], [])
theorem parS_succ (kd wd : List Int) (k : Nat) : parS kd wd (k + 1) = stepP kd wd k (parS kd wd k) := rfl
theorem par1 {kd wd : List Int} {k : Nat} (h : kiP kd wd k = 1) : parS kd wd (k + 1) = ((parS kd wd k).1 ++ [-1], (parS kd wd k).2 ++ [(k : Int)]) := by
  rw [parS_succ]; unfold stepP; rw [if_pos h]
theorem par2 {kd wd : List Int} {k : Nat} (h : kiP kd wd k = 2) (h2 : 0 < (parS kd wd k).2.length) :
    parS kd wd (k + 1) = ((((parS kd wd k).1 ++ [-1]).set k (laI (parS kd wd k).2)).set (laI (parS kd wd k).2).toNat (k : Int), (parS kd wd k).2.take ((((parS kd wd k).2.length : Nat) : Int) - 1).toNat) := by
  rw [parS_succ]; unfold stepP; rw [if_neg (by omega), if_pos ⟨h, h2⟩]
theorem par0 {kd wd : List Int} {k : Nat} (h : kiP kd wd k ≠ 1) (h2 : ¬ (kiP kd wd k = 2 ∧ 0 < (parS kd wd k).2.length)) : parS kd wd (k + 1) = ((parS kd wd k).1 ++ [-1], (parS kd wd k).2) := by
  rw [parS_succ]; unfold stepP; rw [if_neg h, if_neg h2]
structure InvP (kd wd : List Int) (k : Nat) : Prop where
  l1 : (parS kd wd k).1.length = k
  l2 : (parS kd wd k).2.length ≤ k
  el : ∀ x ∈ (parS kd wd k).2, (0 ≤ x ∧ x < k) ∧ kiP kd wd x.toNat = 1
  nn : ∀ q : Nat, -1 ≤ (parS kd wd k).1.getD q 0
theorem getD_mem {l : List Int} {i : Nat} (h : i < l.length) : l.getD i 0 ∈ l := by
  rw [List.getD_eq_getElem?_getD, List.getElem?_eq_getElem h]; exact List.getElem_mem h
theorem InvP.last {kd wd : List Int} {k : Nat} (h : InvP kd wd k) (h2 : 0 < (parS kd wd k).2.length) : 0 ≤ laI (parS kd wd k).2 ∧ laI (parS kd wd k).2 < k ∧ kiP kd wd (laI (parS kd wd k).2).toNat = 1 := by
  have := h.el _ (getD_mem (l := (parS kd wd k).2) (i := ((((parS kd wd k).2.length : Nat) : Int) - 1).toNat) (by omega))
  exact ⟨this.1.1, this.1.2, this.2⟩
theorem getD_app1 {l : List Int} {q : Nat} (h : ∀ q : Nat, -1 ≤ l.getD q 0) : -1 ≤ (l ++ [-1]).getD q 0 := by
  rcases Nat.lt_or_ge q l.length with h1 | h1
  · rw [List.getD_eq_getElem?_getD, List.getElem?_append_left h1, ← List.getD_eq_getElem?_getD]; exact h q
  · rw [List.getD_eq_getElem?_getD, List.getElem?_append_right h1]
    rcases Nat.eq_zero_or_pos (q - l.length) with e | e
    · rw [e]; simp
    · rw [List.getElem?_eq_none (by simp; omega)]; simp
theorem getD_setn {l : List Int} {i q : Nat} {x : Int} (h : ∀ q : Nat, -1 ≤ l.getD q 0) (hx : -1 ≤ x) : -1 ≤ (l.set i x).getD q 0 := by
  rw [List.getD_eq_getElem?_getD, List.getElem?_set]
  split
  · split
    · simpa using hx
    · simp
  · rw [← List.getD_eq_getElem?_getD]; exact h q
theorem InvP.zero (kd wd : List Int) : InvP kd wd 0 := ⟨rfl, Nat.le_refl _, (fun x hx => absurd hx (by simp [parS, itN])), (fun q => by simp [parS, itN])⟩
theorem gs_ne {l : List Int} {i j : Nat} {x : Int} (h : i ≠ j) : (l.set i x).getD j 0 = l.getD j 0 := by simp [List.getD_eq_getElem?_getD, List.getElem?_set, h]
theorem gs_eq {l : List Int} {i : Nat} {x : Int} (h : i < l.length) : (l.set i x).getD i 0 = x := by simp [List.getD_eq_getElem?_getD, h]
theorem InvP.step {kd wd : List Int} {k : Nat} (h : InvP kd wd k) : InvP kd wd (k + 1) := by
  by_cases h1 : kiP kd wd k = 1
  · refine ⟨by rw [par1 h1]; simp [h.l1], by rw [par1 h1]; have := h.l2; simp; omega, fun x hx => ?_, fun q => by rw [par1 h1]; exact getD_app1 h.nn⟩
    rw [par1 h1] at hx
    rcases List.mem_append.1 hx with hx | hx
    · have := h.el x hx; exact ⟨by omega, this.2⟩
    · simp at hx; subst hx; exact ⟨by omega, h1⟩
  · by_cases h2 : kiP kd wd k = 2 ∧ 0 < (parS kd wd k).2.length
    · have hl := h.last h2.2
      refine ⟨by rw [par2 h2.1 h2.2]; simp [h.l1], by rw [par2 h2.1 h2.2]; have := h.l2; simp; omega, fun x hx => ?_, fun q => by rw [par2 h2.1 h2.2]; exact getD_setn (fun q => getD_setn (fun q => getD_app1 h.nn) (by omega)) (by omega)⟩
      rw [par2 h2.1 h2.2] at hx
      have := h.el x (List.mem_of_mem_take hx); exact ⟨by omega, this.2⟩
    · refine ⟨by rw [par0 h1 h2]; simp [h.l1], by rw [par0 h1 h2]; have := h.l2; simp; omega, fun x hx => ?_, fun q => by rw [par0 h1 h2]; exact getD_app1 h.nn⟩
      rw [par0 h1 h2] at hx
      have := h.el x hx; exact ⟨by omega, this.2⟩
theorem InvP.all (kd wd : List Int) : ∀ k, InvP kd wd k
  | 0 => .zero kd wd
  | k + 1 => (InvP.all kd wd k).step
def okK (wd kd : List Int) : Bool := isWordB wd (kd.length : Int) && allIn kd 0 2
theorem okK_spec {wd kd : List Int} (h : okK wd kd = true) : (1 ≤ (kd.length : Int) ∧ (kd.length : Int) ≤ 4) ∧ (wd.length : Int) ≤ 12 ∧ allIn wd 0 ((kd.length : Int) - 1) = true ∧ allIn kd 0 2 = true := by
  simp only [okK, isWordB, wordB, Bool.and_eq_true, decide_eq_true_eq] at h; exact ⟨h.1.1, h.1.2.1, h.1.2.2, h.2⟩
theorem okK_bad {wd kd : List Int} (h : allIn kd 0 2 = false) : okK wd kd = false := by simp [okK, h]
theorem okK_good {wd kd : List Int} (h : allIn kd 0 2 = true) : okK wd kd = isWordB wd (kd.length : Int) := by simp [okK, h]
def parL (kd wd : List Int) : List Int := (parS kd wd wd.length).1
theorem parL_len (kd wd : List Int) : (parL kd wd).length = wd.length := (InvP.all kd wd _).l1
theorem onT_parL_len (wd kd : List Int) : (onT (okK wd kd) (parL kd wd)).length ≤ 12 := by
  by_cases h : okK wd kd = true
  · rw [onT_yes h, parL_len]; have := (okK_spec h).2.1; omega
  · rw [onT_no h]; simp
theorem rep_one {n k : Nat} (h : k < n) : List.replicate (n - k) (-1 : Int) = [-1] ++ List.replicate (n - (k + 1)) (-1 : Int) := by
  have : n - k = (n - (k + 1)) + 1 := by omega
  rw [this, List.replicate_succ]; rfl
theorem fill_app {A : List Int} {n k : Nat} (h : k < n) : A ++ List.replicate (n - k) (-1 : Int) = (A ++ [-1]) ++ List.replicate (n - (k + 1)) (-1 : Int) := by rw [rep_one h, List.append_assoc]
theorem imp1 {kd wd : List Int} {k n : Nat} (hn : k < n) (h : kiP kd wd k = 1) : (parS kd wd k).1 ++ List.replicate (n - k) (-1 : Int) = (parS kd wd (k + 1)).1 ++ List.replicate (n - (k + 1)) (-1 : Int) := by rw [par1 h]; exact fill_app hn
theorem imp0 {kd wd : List Int} {k n : Nat} (hn : k < n) (h : kiP kd wd k ≠ 1) (h2 : ¬ (kiP kd wd k = 2 ∧ 0 < (parS kd wd k).2.length)) : (parS kd wd k).1 ++ List.replicate (n - k) (-1 : Int) = (parS kd wd (k + 1)).1 ++ List.replicate (n - (k + 1)) (-1 : Int) := by rw [par0 h h2]; exact fill_app hn
theorem imp2 {kd wd : List Int} {k n : Nat} (hn : k < n) (h : kiP kd wd k = 2) (h2 : 0 < (parS kd wd k).2.length) :
    (((parS kd wd k).1 ++ List.replicate (n - k) (-1 : Int)).set k (laI (parS kd wd k).2)).set (laI (parS kd wd k).2).toNat (k : Int) = (parS kd wd (k + 1)).1 ++ List.replicate (n - (k + 1)) (-1 : Int) := by
  have hI := InvP.all kd wd k
  have hl := hI.last h2
  rw [par2 h h2, fill_app hn, List.set_append_left _ _ (by simp [hI.l1]), List.set_append_left _ _ (by rw [List.length_set, List.length_append, hI.l1]; simp only [List.length_cons, List.length_nil]; omega)]
theorem imp_done {kd wd : List Int} {k : Nat} (h : wd.length ≤ k) (h2 : k ≤ wd.length) : (parS kd wd k).1 ++ List.replicate (wd.length - k) (-1 : Int) = parL kd wd := by
  have : k = wd.length := by omega
  subst this; simp [parL]
theorem imp_zero (kd wd : List Int) : List.replicate (((wd.length : Nat) : Int)).toNat (-1 : Int) = (parS kd wd 0).1 ++ List.replicate (wd.length - 0) (-1 : Int) := by simp [parS, itN]
/-! ### Depths -/
theorem par_keep {kd wd : List Int} {i : Nat} (h1 : kiP kd wd i ≠ 1) : ∀ d, (parS kd wd (i + 1 + d)).1.getD i 0 = (parS kd wd (i + 1)).1.getD i 0
  | 0 => rfl
  | d + 1 => by
    have ih := par_keep h1 d
    have e : i + 1 + (d + 1) = (i + 1 + d) + 1 := by omega
    have hI := InvP.all kd wd (i + 1 + d)
    have hap : ∀ x : Int, ((parS kd wd (i + 1 + d)).1 ++ [x]).getD i 0 = (parS kd wd (i + 1 + d)).1.getD i 0 := fun x => by
      rw [List.getD_eq_getElem?_getD, List.getElem?_append_left (by rw [hI.l1]; omega), ← List.getD_eq_getElem?_getD]
    rw [e, ← ih]
    by_cases k1 : kiP kd wd (i + 1 + d) = 1
    · rw [par1 k1]; exact hap _
    · by_cases k2 : kiP kd wd (i + 1 + d) = 2 ∧ 0 < (parS kd wd (i + 1 + d)).2.length
      · have hl := hI.last k2.2
        rw [par2 k2.1 k2.2]
        have n1 : (laI (parS kd wd (i + 1 + d)).2).toNat ≠ i := fun q => h1 (by rw [← q]; exact hl.2.2)
        have n2 : i + 1 + d ≠ i := by omega
        show ((((parS kd wd (i + 1 + d)).1 ++ [-1]).set (i + 1 + d) (laI (parS kd wd (i + 1 + d)).2)).set (laI (parS kd wd (i + 1 + d)).2).toNat (((i + 1 + d : Nat)) : Int)).getD i 0 = _
        rw [gs_ne n1, gs_ne n2]; exact hap _
      · rw [par0 k1 k2]; exact hap _
theorem parL_at {kd wd : List Int} {i : Nat} (hi : i < wd.length) (h1 : kiP kd wd i ≠ 1) : 0 ≤ (parL kd wd).getD i 0 ↔ (kiP kd wd i = 2 ∧ 0 < (parS kd wd i).2.length) := by
  have h := par_keep h1 (wd.length - (i + 1))
  have e : i + 1 + (wd.length - (i + 1)) = wd.length := by omega
  rw [e] at h
  unfold parL
  rw [h]
  have hI := InvP.all kd wd i
  by_cases k2 : kiP kd wd i = 2 ∧ 0 < (parS kd wd i).2.length
  · have hl := hI.last k2.2
    rw [par2 k2.1 k2.2]
    have n1 : (laI (parS kd wd i).2).toNat ≠ i := by omega
    refine ⟨fun _ => k2, fun _ => ?_⟩
    show 0 ≤ ((((parS kd wd i).1 ++ [-1]).set i (laI (parS kd wd i).2)).set (laI (parS kd wd i).2).toNat (i : Int)).getD i 0
    rw [gs_ne n1, gs_eq (by rw [List.length_append, hI.l1]; simp)]; exact hl.1
  · rw [par0 h1 k2]
    refine ⟨fun hh => ?_, fun q => absurd q k2⟩
    rw [List.getD_eq_getElem?_getD, List.getElem?_append_right (by rw [hI.l1]; omega), hI.l1] at hh
    simp at hh
@[reducible] def dpP (kd wd : List Int) (k : Nat) : Int := ((parS kd wd k).2.length : Int)
theorem dp1 {kd wd : List Int} {k : Nat} (h : kiP kd wd k = 1) : dpP kd wd (k + 1) = dpP kd wd k + 1 := by unfold dpP; rw [par1 h]; simp
theorem dp2 {kd wd : List Int} {k : Nat} (h : kiP kd wd k = 2) (h2 : 0 < (parS kd wd k).2.length) : dpP kd wd (k + 1) = dpP kd wd k - 1 := by unfold dpP; rw [par2 h h2]; simp; omega
theorem dp0 {kd wd : List Int} {k : Nat} (h : kiP kd wd k ≠ 1) (h2 : ¬ (kiP kd wd k = 2 ∧ 0 < (parS kd wd k).2.length)) : dpP kd wd (k + 1) = dpP kd wd k := by unfold dpP; rw [par0 h h2]
def depL (kd wd : List Int) (k : Nat) : List Int := (List.range k).map fun i => dpP kd wd (i + 1)
theorem depL_put {kd wd : List Int} {k : Nat} {x : Int} (h : x = dpP kd wd (k + 1)) : depL kd wd k ++ [x] = depL kd wd (k + 1) := by simp [depL, List.range_succ, h]
theorem depL_len (kd wd : List Int) (k : Nat) : (depL kd wd k).length = k := by simp [depL]
theorem onT_depL_len (wd kd : List Int) : (onT (okK wd kd) (depL kd wd wd.length)).length ≤ 12 := by
  by_cases h : okK wd kd = true
  · rw [onT_yes h, depL_len]; have := (okK_spec h).2.1; omega
  · rw [onT_no h]; simp
theorem dpS1 {kd wd : List Int} {k : Nat} {dd : Int} (hd : dd = ((parS kd wd k).2.length : Int)) (h : kd.getD (wd.getD k 0).toNat 0 = 1) : dd + 1 = dpP kd wd (k + 1) := by rw [dp1 h, hd]
theorem dpS2 {kd wd : List Int} {k : Nat} {dd : Int} (hd : dd = ((parS kd wd k).2.length : Int)) (h : kd.getD (wd.getD k 0).toNat 0 = 2) : max 0 (dd - 1) = dpP kd wd (k + 1) := by
  by_cases h8 : 0 < (parS kd wd k).2.length
  · rw [dp2 h h8]; simp only [dpP]; omega
  · rw [dp0 (by show kd.getD (wd.getD k 0).toNat 0 ≠ 1; omega) (fun q => h8 q.2)]; simp only [dpP]; omega
theorem dpS0 {kd wd : List Int} {k : Nat} {dd : Int} (hd : dd = ((parS kd wd k).2.length : Int)) (h1 : ¬ kd.getD (wd.getD k 0).toNat 0 = 1) (h : ¬ kd.getD (wd.getD k 0).toNat 0 = 2) : dd = dpP kd wd (k + 1) := by
  rw [dp0 h1 (fun q => h q.1), hd]
theorem dpI2 {kd wd : List Int} {k : Nat} {dd : Int} (hd : dd = ((parS kd wd k).2.length : Int)) (hk : k < wd.length) (h1 : ¬ kd.getD (wd.getD k 0).toNat 0 = 1) (h : 0 ≤ (parL kd wd).getD k 0) : dd - 1 = dpP kd wd (k + 1) := by
  have h2 := (parL_at hk h1).1 h
  rw [dp2 h2.1 h2.2, hd]
theorem dpI0 {kd wd : List Int} {k : Nat} {dd : Int} (hd : dd = ((parS kd wd k).2.length : Int)) (hk : k < wd.length) (h1 : ¬ kd.getD (wd.getD k 0).toNat 0 = 1) (h : ¬ 0 ≤ (parL kd wd).getD k 0) : dd = dpP kd wd (k + 1) := by
  rw [dp0 h1 (fun q => h ((parL_at hk h1).2 q)), hd]
end Go.WX
