/- The smallest machine of trees reads the same trees, and is its own smallest; no program. No condition. -/
import Derived.Test.YthemmoceomdccaaPlFu
namespace Go.WX
open Go

/-! ### Relations that are made finer, round by round -/
/-- The first ones of their kind among the first n. -/
def fstP (c : Nat → Int) (i : Nat) : Bool := (List.range i).all fun j => decide (c j ≠ c i)
def cntF (c : Nat → Int) (n : Nat) : Nat := (List.range n).countP (fstP c)
theorem fstP_iff {c : Nat → Int} {i : Nat} : fstP c i = true ↔ ∀ j, j < i → c j ≠ c i := by
  unfold fstP; rw [List.all_eq_true]
  exact ⟨fun h j hj => of_decide_eq_true (h j (List.mem_range.2 hj)), fun h j hj => decide_eq_true (h j (List.mem_range.1 hj))⟩
theorem countP_eq {p q : Nat → Bool} (hpq : ∀ i, p i = true → q i = true) : ∀ l : List Nat, l.countP p = l.countP q → ∀ i ∈ l, q i = true → p i = true
  | [], _, i, hi, _ => by cases hi
  | x :: r, h, i, hi, hq => by
    have hm : r.countP p ≤ r.countP q := List.countP_mono_left (fun y _ hy => hpq y hy)
    rw [List.countP_cons, List.countP_cons] at h
    have hx : (if p x = true then 1 else 0) ≤ (if q x = true then 1 else (0 : Nat)) := by
      by_cases e : p x = true
      · rw [if_pos e, if_pos (hpq x e)]; exact Nat.le_refl _
      · rw [if_neg e]; exact Nat.zero_le _
    rcases List.mem_cons.1 hi with rfl | hi
    · by_cases e : p i = true
      · exact e
      · rw [if_neg e, if_pos hq] at h; omega
    · exact countP_eq hpq r (by omega) i hi hq
theorem has_first (c : Nat → Int) : ∀ i : Nat, ∃ r, r ≤ i ∧ c r = c i ∧ fstP c r = true
  | i => by
    by_cases h : fstP c i = true
    · exact ⟨i, Nat.le_refl _, rfl, h⟩
    · have h2 : ¬ ∀ j, j < i → c j ≠ c i := fun h3 => h (fstP_iff.2 h3)
      have h3 : ∃ j, j < i ∧ c j = c i := Classical.byContradiction fun h4 => h2 fun j hj e => h4 ⟨j, hj, e⟩
      obtain ⟨j, hj, e⟩ := h3
      obtain ⟨r, h4, h5, h6⟩ := has_first c j
      exact ⟨r, by omega, h5.trans e, h6⟩
/-- A finer relation with no more kinds is the same. -/
theorem same_of {c d : Nat → Int} {n : Nat} (hf : ∀ i j, i < n → j < n → d i = d j → c i = c j) (hc : cntF c n = cntF d n) : ∀ i j, i < n → j < n → c i = c j → d i = d j := by
  have hsub : ∀ i, i < n → fstP c i = true → fstP d i = true := fun i hi h => fstP_iff.2 fun j hj e => fstP_iff.1 h j hj (hf j i (by omega) hi e)
  have hback : ∀ i, i < n → fstP d i = true → fstP c i = true := by
    have h1 := countP_eq (p := fun i => decide (i < n) && fstP c i) (q := fun i => decide (i < n) && fstP d i) (fun i h => by
      simp only [Bool.and_eq_true, decide_eq_true_eq] at h ⊢; exact ⟨h.1, hsub i h.1 h.2⟩) (List.range n) (by
      have e1 : ∀ f : Nat → Bool, (List.range n).countP (fun i => decide (i < n) && f i) = (List.range n).countP f := fun f => List.countP_congr fun i hi => by
        simp [List.mem_range.1 hi]
      rw [e1, e1]; exact hc)
    intro i hi h
    have := h1 i (List.mem_range.2 hi) (by simp [hi, h])
    simp only [Bool.and_eq_true, decide_eq_true_eq] at this
    exact this.2
  have key : ∀ i, i < n → ∀ r, r < n → fstP c r = true → c r = c i → d i = d r := fun i hi r hr h1 h2 => by
    obtain ⟨r2, a1, a2, a3⟩ := has_first d i
    have a4 := hback r2 (by omega) a3
    have a5 : c r2 = c r := (hf r2 i (by omega) hi a2).trans h2.symm
    have : r2 = r := by
      rcases Nat.lt_trichotomy r2 r with h | h | h
      · exact absurd a5 (fstP_iff.1 h1 r2 h)
      · exact h
      · exact absurd a5.symm (fstP_iff.1 a4 r h)
    rw [← this]; exact a2.symm
  intro i j hi hj e
  obtain ⟨r, b1, b2, b3⟩ := has_first c i
  rw [key i hi r (by omega) b3 b2, key j hj r (by omega) b3 (b2.trans e)]
theorem cnt_mono {c d : Nat → Int} {n : Nat} (hf : ∀ i j, i < n → j < n → d i = d j → c i = c j) : cntF c n ≤ cntF d n := by
  unfold cntF
  refine List.countP_mono_left fun i hi h => fstP_iff.2 fun j hj e => ?_
  have hi := List.mem_range.1 hi
  exact fstP_iff.1 h j hj (hf j i (by omega) hi e)
theorem cnt_le (c : Nat → Int) (n : Nat) : cntF c n ≤ n := by
  unfold cntF; have := List.countP_le_length (p := fstP c) (l := List.range n); rwa [List.length_range] at this
theorem cnt_pos (c : Nat → Int) {n : Nat} (h : 0 < n) : 1 ≤ cntF c n := by
  unfold cntF
  exact List.countP_pos_iff.2 ⟨0, List.mem_range.2 h, fstP_iff.2 fun j hj => absurd hj (Nat.not_lt_zero _)⟩
/-- Rounds that depend on the relation alone stand still after as many as there are elements. -/
theorem still {c : Nat → Nat → Int} {n : Nat} (hn : 0 < n) (hf : ∀ m i j, i < n → j < n → c (m + 1) i = c (m + 1) j → c m i = c m j)
    (hs : ∀ m, (∀ i j, i < n → j < n → c m i = c m j → c (m + 1) i = c (m + 1) j) → ∀ i j, i < n → j < n → c (m + 1) i = c (m + 1) j → c (m + 2) i = c (m + 2) j) :
    ∀ i j, i < n → j < n → c n i = c n j → c (n + 1) i = c (n + 1) j := by
  have h1 : ∃ m, m < n ∧ cntF (c m) n = cntF (c (m + 1)) n := Classical.byContradiction fun h => by
    have h2 : ∀ m, m ≤ n → m + 1 ≤ cntF (c m) n := by
      intro m
      induction m with
      | zero => intro _; exact cnt_pos _ hn
      | succ m ih =>
        intro hm
        have h3 := ih (by omega)
        have h4 := cnt_mono (hf m)
        have h5 : cntF (c m) n ≠ cntF (c (m + 1)) n := fun e => h ⟨m, by omega, e⟩
        omega
    have h6 := h2 n (Nat.le_refl _)
    have h7 := cnt_le (c n) n
    omega
  obtain ⟨m, hm, e⟩ := h1
  have h2 : ∀ d, ∀ i j, i < n → j < n → c (m + d) i = c (m + d) j → c (m + d + 1) i = c (m + d + 1) j := by
    intro d
    induction d with
    | zero => exact same_of (hf m) e
    | succ d ih => exact hs (m + d) ih
  have h3 := h2 (n - m)
  rwa [show m + (n - m) = n by omega] at h3

/-! ### The rounds of the classes -/
section
variable {a0 a1 : Int} {lf nx cl : List Int} {en : List Bool} {l : List R4} {i j k n : Nat} {ks ks' : List (List Int)} {key : List Int}
theorem ixK_pre (hp : ks <+: ks') (h : ixK ks key < ks.length) : ixK ks' key = ixK ks key := by
  obtain ⟨t, rfl⟩ := hp
  unfold ixK at *
  rw [List.findIdx_append, if_pos h]
theorem ksF_pre (a0 : Int) (nx : List Int) (l : List R4) (cl : List Int) (i : Nat) : ∀ d : Nat, ksF a0 nx l cl i <+: ksF a0 nx l cl (i + d)
  | 0 => List.prefix_refl _
  | d + 1 => (ksF_pre a0 nx l cl i d).trans (by
    show ksF a0 nx l cl (i + d) <+: putK (ksF a0 nx l cl (i + d)) _
    unfold putK; split
    · exact List.prefix_refl _
    · exact List.prefix_append _ _)
theorem ixK_snoc (h : ¬ ixK ks key < ks.length) : ixK (ks ++ [key]) key = ks.length := by
  have h1 := ixK_le ks key
  unfold ixK at *
  rw [List.findIdx_append, if_neg h]; simp [List.findIdx_cons]
theorem name_fin (hi : i < l.length) : ixK (ksF a0 nx l cl i) (keyF a0 nx l cl i l.length) = ixK (ksF a0 nx l cl l.length) (keyF a0 nx l cl i l.length) ∧ ixK (ksF a0 nx l cl l.length) (keyF a0 nx l cl i l.length) < (ksF a0 nx l cl l.length).length := by
  have hp := ksF_pre a0 nx l cl (i + 1) (l.length - (i + 1))
  rw [show i + 1 + (l.length - (i + 1)) = l.length by omega] at hp
  have h1 : ixK (ksF a0 nx l cl (i + 1)) (keyF a0 nx l cl i l.length) = ixK (ksF a0 nx l cl i) (keyF a0 nx l cl i l.length) ∧ ixK (ksF a0 nx l cl (i + 1)) (keyF a0 nx l cl i l.length) < (ksF a0 nx l cl (i + 1)).length := by
    rw [ksF]
    by_cases e : ixK (ksF a0 nx l cl i) (keyF a0 nx l cl i l.length) < (ksF a0 nx l cl i).length
    · rw [putK_old e]; exact ⟨rfl, e⟩
    · have := ixK_le (ksF a0 nx l cl i) (keyF a0 nx l cl i l.length)
      rw [putK_new e, ixK_snoc e, List.length_append, List.length_singleton]; exact ⟨by omega, by omega⟩
  have h2 := ixK_pre hp h1.2
  have h3 := hp.length_le
  exact ⟨(h1.1).symm.trans h2.symm, by omega⟩
theorem keyF_pre (a0 : Int) (nx : List Int) (l : List R4) (cl : List Int) (i j : Nat) : ∀ d : Nat, keyF a0 nx l cl i j <+: keyF a0 nx l cl i (j + d)
  | 0 => List.prefix_refl _
  | d + 1 => (keyF_pre a0 nx l cl i j d).trans (List.prefix_append _ _)
theorem keyF_eq {i j : Nat} : ∀ m : Nat, keyF a0 nx l cl i m = keyF a0 nx l cl j m ↔ cl.getD (rS l i).toNat 0 = cl.getD (rS l j).toNat 0 ∧
    ∀ k, k < m → cl.getD (nx.getD (rS l i * a0 + rS l k).toNat 0).toNat 0 = cl.getD (nx.getD (rS l j * a0 + rS l k).toNat 0).toNat 0 ∧ cl.getD (nx.getD (rS l k * a0 + rS l i).toNat 0).toNat 0 = cl.getD (nx.getD (rS l k * a0 + rS l j).toNat 0).toNat 0
  | 0 => by
    simp only [keyF, List.cons.injEq, and_true]
    exact ⟨fun h => ⟨h, fun k hk => absurd hk (Nat.not_lt_zero _)⟩, fun h => h.1⟩
  | m + 1 => by
    have ih := keyF_eq (i := i) (j := j) m
    rw [keyF, keyF]
    constructor
    · intro h
      have h1 := List.append_inj h (by rw [keyF_len, keyF_len])
      have h2 := ih.1 h1.1
      simp only [List.cons.injEq, and_true] at h1
      refine ⟨h2.1, fun k hk => ?_⟩
      rcases Nat.lt_succ_iff_lt_or_eq.1 hk with h3 | rfl
      · exact h2.2 k h3
      · exact h1.2
    · rintro ⟨h1, h2⟩
      have h3 := h2 m (Nat.lt_succ_self _)
      rw [ih.2 ⟨h1, fun k hk => h2 k (by omega)⟩, h3.1, h3.2]
/-- The class of found state i after n rounds. -/
def clN (a0 : Int) (en : List Bool) (nx : List Int) (l : List R4) (n i : Nat) : Int := (clF a0 en nx l n).getD (rS l i).toNat 0
theorem clN_succ (h : FO a0 a1 l) (hi : i < l.length) (hj : j < l.length) : clN a0 en nx l (n + 1) i = clN a0 en nx l (n + 1) j ↔ keyF a0 nx l (clF a0 en nx l n) i l.length = keyF a0 nx l (clF a0 en nx l n) j l.length := by
  have e : ∀ i, i < l.length → clN a0 en nx l (n + 1) i = ((ixK (ksF a0 nx l (clF a0 en nx l n) l.length) (keyF a0 nx l (clF a0 en nx l n) i l.length) : Nat) : Int) := fun i hi => by
    show (nxF a0 nx l (clF a0 en nx l n) l.length).getD (rS l i).toNat 0 = _
    rw [nxF_name h hi, (name_fin hi).1]
  rw [e i hi, e j hj]
  constructor
  · intro h1
    have h2 : ixK (ksF a0 nx l (clF a0 en nx l n) l.length) (keyF a0 nx l (clF a0 en nx l n) i l.length) = ixK (ksF a0 nx l (clF a0 en nx l n) l.length) (keyF a0 nx l (clF a0 en nx l n) j l.length) := by omega
    have h3 := ixK_get (name_fin (a0 := a0) (nx := nx) (cl := clF a0 en nx l n) hi).2
    have h4 := ixK_get (name_fin (a0 := a0) (nx := nx) (cl := clF a0 en nx l n) hj).2
    rw [← h3, ← h4, h2]
  · intro h1; rw [h1]
/-- Joins of found states are found. -/
def Cls (a0 : Int) (nx : List Int) (l : List R4) : Prop := ∀ x y, x < l.length → y < l.length → ∃ z, z < l.length ∧ nx.getD (rS l x * a0 + rS l y).toNat 0 = rS l z
theorem cls_found (t : TV a0 a1 lf nx) : Cls a0 nx (foundL a0 nx lf) := fun x y hx hy => by
  obtain ⟨f, hf, e⟩ := List.mem_map.1 (found_join t hx hy)
  obtain ⟨z, hz, e2⟩ := List.getElem_of_mem hf
  exact ⟨z, hz, by rw [rS_at hz, e2]; exact e.symm⟩
theorem clN_step (h : FO a0 a1 l) (hC : Cls a0 nx l) {m m2 : Nat} (hmm : ∀ i j, i < l.length → j < l.length → clN a0 en nx l m i = clN a0 en nx l m j → clN a0 en nx l m2 i = clN a0 en nx l m2 j)
    (hi : i < l.length) (hj : j < l.length) (e : clN a0 en nx l (m + 1) i = clN a0 en nx l (m + 1) j) : clN a0 en nx l (m2 + 1) i = clN a0 en nx l (m2 + 1) j := by
  have h1 := (keyF_eq _).1 ((clN_succ h hi hj).1 e)
  refine (clN_succ h hi hj).2 ((keyF_eq _).2 ⟨hmm i j hi hj h1.1, fun k hk => ?_⟩)
  have h2 := h1.2 k hk
  obtain ⟨z1, b1, c1⟩ := hC i k hi hk
  obtain ⟨z2, b2, c2⟩ := hC j k hj hk
  obtain ⟨z3, b3, c3⟩ := hC k i hk hi
  obtain ⟨z4, b4, c4⟩ := hC k j hk hj
  rw [c1, c2, c3, c4] at h2
  rw [c1, c2, c3, c4]
  exact ⟨hmm z1 z2 b1 b2 h2.1, hmm z3 z4 b3 b4 h2.2⟩
theorem clN_fine (h : FO a0 a1 l) (hi : i < l.length) (hj : j < l.length) (e : clN a0 en nx l (n + 1) i = clN a0 en nx l (n + 1) j) : clN a0 en nx l n i = clN a0 en nx l n j :=
  ((keyF_eq _).1 ((clN_succ h hi hj).1 e)).1
/-- The class of found state i. -/
noncomputable def clI (a0 : Int) (en : List Bool) (nx : List Int) (l : List R4) (i : Nat) : Int := (clsF a0 en nx l).getD (rS l i).toNat 0
theorem clI_eq : clI a0 en nx l i = clN a0 en nx l l.length i := by rw [clI, clsF_eq]; rfl
/-- Equal classes: both are ends or none, and joins with a third have equal classes. -/
theorem clI_cong (h : FO a0 a1 l) (hC : Cls a0 nx l) (hi : i < l.length) (hj : j < l.length) (e : clI a0 en nx l i = clI a0 en nx l j) :
    en.getD (rS l i).toNat false = en.getD (rS l j).toNat false ∧ ∀ k, k < l.length →
      (clsF a0 en nx l).getD (nx.getD (rS l i * a0 + rS l k).toNat 0).toNat 0 = (clsF a0 en nx l).getD (nx.getD (rS l j * a0 + rS l k).toNat 0).toNat 0 ∧
      (clsF a0 en nx l).getD (nx.getD (rS l k * a0 + rS l i).toNat 0).toNat 0 = (clsF a0 en nx l).getD (nx.getD (rS l k * a0 + rS l j).toNat 0).toNat 0 := by
  rw [clI_eq, clI_eq] at e
  have hs := still (c := clN a0 en nx l) (n := l.length) (by omega) (fun m i j hi hj e => clN_fine h hi hj e) (fun m hm i j hi hj e => clN_step h hC hm hi hj e)
  have h1 := (keyF_eq _).1 ((clN_succ h hi hj).1 (hs i j hi hj e))
  refine ⟨?_, by rw [clsF_eq]; exact h1.2⟩
  have h0 : ∀ m, clN a0 en nx l m i = clN a0 en nx l m j → clN a0 en nx l 0 i = clN a0 en nx l 0 j := by
    intro m
    induction m with
    | zero => exact id
    | succ m ih => exact fun e => ih (clN_fine h hi hj e)
  have h2 := h0 _ e
  have e1 : ∀ i, i < l.length → clN a0 en nx l 0 i = if en.getD (rS l i).toNat false = true then 1 else 0 := fun i hi => c0F_name h hi
  rw [e1 i hi, e1 j hj] at h2
  cases hx : en.getD (rS l i).toNat false <;> cases hy : en.getD (rS l j).toNat false <;> rw [hx, hy] at h2 <;> first | rfl | (simp at h2)
/-- Whatever tells ends apart and is kept by joins is finer than the classes. -/
theorem clI_coarse (h : FO a0 a1 l) (R : Nat → Nat → Prop) (h0 : ∀ i j, i < l.length → j < l.length → R i j → en.getD (rS l i).toNat false = en.getD (rS l j).toNat false)
    (hR : ∀ i j k, i < l.length → j < l.length → k < l.length → R i j → (∃ z1 z2, z1 < l.length ∧ z2 < l.length ∧ nx.getD (rS l i * a0 + rS l k).toNat 0 = rS l z1 ∧ nx.getD (rS l j * a0 + rS l k).toNat 0 = rS l z2 ∧ R z1 z2) ∧
      (∃ z1 z2, z1 < l.length ∧ z2 < l.length ∧ nx.getD (rS l k * a0 + rS l i).toNat 0 = rS l z1 ∧ nx.getD (rS l k * a0 + rS l j).toNat 0 = rS l z2 ∧ R z1 z2))
    (hi : i < l.length) (hj : j < l.length) (hr : R i j) : clI a0 en nx l i = clI a0 en nx l j := by
  have key : ∀ m, ∀ i j, i < l.length → j < l.length → R i j → clN a0 en nx l m i = clN a0 en nx l m j := by
    intro m
    induction m with
    | zero =>
      intro i j hi hj hr
      have e1 : ∀ i, i < l.length → clN a0 en nx l 0 i = if en.getD (rS l i).toNat false = true then 1 else 0 := fun i hi => c0F_name h hi
      rw [e1 i hi, e1 j hj, h0 i j hi hj hr]
    | succ m ih =>
      intro i j hi hj hr
      refine (clN_succ h hi hj).2 ((keyF_eq _).2 ⟨ih i j hi hj hr, fun k hk => ?_⟩)
      obtain ⟨⟨z1, z2, b1, b2, b3, b4, b5⟩, ⟨z3, z4, d1, d2, d3, d4, d5⟩⟩ := hR i j k hi hj hk hr
      rw [b3, b4, d3, d4]
      exact ⟨ih z1 z2 b1 b2 b5, ih z3 z4 d1 d2 d5⟩
  rw [clI_eq, clI_eq]; exact key _ i j hi hj hr
end

/-! ### The smallest machine reads the same -/
/-- What a smallest machine is made of. -/
structure SmOf (a0 : Int) (lf nx : List Int) (en : List Bool) (m : Int) (s2 s3 : List Int) (s4 : List Bool) : Prop where
  hm : m = ((mbF (clsF a0 en nx (foundL a0 nx lf)) (foundL a0 nx lf) (foundL a0 nx lf).length).length : Int)
  hlf : s2 = mpL (clsF a0 en nx (foundL a0 nx lf)) lf
  hnx : s3 = nxL a0 nx (clsF a0 en nx (foundL a0 nx lf)) (mbF (clsF a0 en nx (foundL a0 nx lf)) (foundL a0 nx lf) (foundL a0 nx lf).length) (mbF (clsF a0 en nx (foundL a0 nx lf)) (foundL a0 nx lf) (foundL a0 nx lf).length)
  hen : s4 = enL en (mbF (clsF a0 en nx (foundL a0 nx lf)) (foundL a0 nx lf) (foundL a0 nx lf).length)
section
variable {cl : List Int} {l : List R4}
/-- The member of a class that came first has that class. -/
theorem mb_class (h : Nm cl l) : ∀ (k : Nat), k ≤ l.length → ∀ c, c < (mbF cl l k).length → ∃ i, i < k ∧ (mbF cl l k).getD c 0 = rS l i ∧ cl.getD (rS l i).toNat 0 = (c : Int)
  | 0, _, c, hc => absurd hc (Nat.not_lt_zero _)
  | k + 1, hk, c, hc => by
    by_cases e : cl.getD (rS l k).toNat 0 = ((mbF cl l k).length : Int)
    · rw [mbF_yes e] at hc ⊢
      rw [List.length_append, List.length_singleton] at hc
      by_cases e2 : c < (mbF cl l k).length
      · obtain ⟨i, h1, h2, h3⟩ := mb_class h k (by omega) c e2
        exact ⟨i, by omega, by rw [List.getD_eq_getElem?_getD, List.getElem?_append_left e2, ← List.getD_eq_getElem?_getD]; exact h2, h3⟩
      · obtain rfl : c = (mbF cl l k).length := by omega
        exact ⟨k, by omega, by rw [List.getD_eq_getElem?_getD, List.getElem?_append_right (Nat.le_refl _)]; simp, e⟩
    · rw [mbF_no e] at hc ⊢
      obtain ⟨i, h1, h2, h3⟩ := mb_class h k (by omega) c hc
      exact ⟨i, by omega, h2, h3⟩
theorem rwL_get {a0 : Int} {nx mb : List Int} {s : Int} {y : Nat} (hy : y < mb.length) : (rwL a0 nx cl mb s).getD y 0 = cl.getD (nx.getD (s * a0 + mb.getD y 0).toNat 0).toNat 0 := by
  rw [rwL, List.getD_eq_getElem?_getD, List.getElem?_map, List.getD_eq_getElem?_getD (l := mb), List.getElem?_eq_getElem hy]; rfl
theorem nxL_get {a0 : Int} {nx mb : List Int} {x y : Nat} (hy : y < mb.length) : ∀ xs : List Int, x < xs.length → (nxL a0 nx cl mb xs).getD (x * mb.length + y) 0 = cl.getD (nx.getD (xs.getD x 0 * a0 + mb.getD y 0).toNat 0).toNat 0
  | [], h => absurd h (Nat.not_lt_zero _)
  | s :: r, h => by
    have e : nxL a0 nx cl mb (s :: r) = rwL a0 nx cl mb s ++ nxL a0 nx cl mb r := rfl
    rw [e]
    match x, h with
    | 0, _ =>
      rw [Nat.zero_mul, Nat.zero_add, List.getD_eq_getElem?_getD, List.getElem?_append_left (by rw [rwL_len]; exact hy), ← List.getD_eq_getElem?_getD, rwL_get hy]; rfl
    | x + 1, h =>
      have hl := rwL_len (a0 := a0) (nx := nx) (cl := cl) mb s
      rw [List.getD_eq_getElem?_getD, List.getElem?_append_right (by rw [hl, Nat.succ_mul]; omega), hl, show (x + 1) * mb.length + y - mb.length = x * mb.length + y by rw [Nat.succ_mul]; omega, ← List.getD_eq_getElem?_getD]
      exact nxL_get hy r (by simpa using h)
theorem mpL_get {lf : List Int} {k : Nat} (hk : k < lf.length) : (mpL cl lf).getD k 0 = cl.getD (lf.getD k 0).toNat 0 := by
  rw [mpL, List.getD_eq_getElem?_getD, List.getElem?_map, List.getD_eq_getElem?_getD (l := lf), List.getElem?_eq_getElem hk]; rfl
theorem enL_get {en : List Bool} {mb : List Int} {k : Nat} (hk : k < mb.length) : (enL en mb).getD k false = en.getD (mb.getD k 0).toNat false := by
  rw [enL, List.getD_eq_getElem?_getD, List.getElem?_map, List.getD_eq_getElem?_getD (l := mb), List.getElem?_eq_getElem hk]; rfl
theorem mem_found {l : List R4} {s : Int} (h : s ∈ l.map (·.1)) : ∃ i, i < l.length ∧ rS l i = s := by
  obtain ⟨f, hf, e⟩ := List.mem_map.1 h
  obtain ⟨z, hz, e2⟩ := List.getElem_of_mem hf
  exact ⟨z, hz, by rw [rS_at hz, e2]; exact e⟩
end
section
variable {a0 a1 : Int} {lf nx : List Int} {en : List Bool} {m : Int} {s2 s3 : List Int} {s4 : List Bool}
theorem st_found (t : TV a0 a1 lf nx) : ∀ T : Tre, okTr a1 T → stT a0 lf nx T ∈ (foundL a0 nx lf).map (·.1)
  | .leaf x, h => by
    have h0 : 0 ≤ x ∧ x ≤ a1 - 1 := h
    have := t.ll
    exact found_leaf t (k := x.toNat) (by omega)
  | .node a b, h => by
    obtain ⟨i, hi, e1⟩ := mem_found (st_found t a h.1)
    obtain ⟨j, hj, e2⟩ := mem_found (st_found t b h.2)
    have := found_join t hi hj
    rw [e1, e2] at this
    exact this
/-- Joins of the members of classes have the class of any two with these classes. -/
theorem join_class (t : TV a0 a1 lf nx) {i j : Nat} {c d : Nat} (hi : i < (foundL a0 nx lf).length) (hj : j < (foundL a0 nx lf).length)
    (hc : clI a0 en nx (foundL a0 nx lf) i = (c : Int)) (hd : clI a0 en nx (foundL a0 nx lf) j = (d : Int))
    (hcm : c < (mbF (clsF a0 en nx (foundL a0 nx lf)) (foundL a0 nx lf) (foundL a0 nx lf).length).length) (hdm : d < (mbF (clsF a0 en nx (foundL a0 nx lf)) (foundL a0 nx lf) (foundL a0 nx lf).length).length) :
    (clsF a0 en nx (foundL a0 nx lf)).getD (nx.getD ((mbF (clsF a0 en nx (foundL a0 nx lf)) (foundL a0 nx lf) (foundL a0 nx lf).length).getD c 0 * a0 + (mbF (clsF a0 en nx (foundL a0 nx lf)) (foundL a0 nx lf) (foundL a0 nx lf).length).getD d 0).toNat 0).toNat 0 =
    (clsF a0 en nx (foundL a0 nx lf)).getD (nx.getD (rS (foundL a0 nx lf) i * a0 + rS (foundL a0 nx lf) j).toNat 0).toNat 0 := by
  have hF := found_ok t
  have hC := cls_found t
  have hN := nm_of (en := en) (nx := nx) hF (found_pos t)
  obtain ⟨i2, p1, p2, p3⟩ := mb_class hN _ (Nat.le_refl _) c hcm
  obtain ⟨j2, q1, q2, q3⟩ := mb_class hN _ (Nat.le_refl _) d hdm
  rw [p2, q2]
  have e1 := (clI_cong hF hC p1 hi (en := en) (show clI a0 en nx _ i2 = clI a0 en nx _ i from p3.trans hc.symm)).2 j2 q1
  have e2 := (clI_cong hF hC q1 hj (en := en) (show clI a0 en nx _ j2 = clI a0 en nx _ j from q3.trans hd.symm)).2 i hi
  rw [e1.1, e2.2]
theorem sm_tv (t : TV a0 a1 lf nx) (he : (en.length : Int) = a0) (h : SmOf a0 lf nx en m s2 s3 s4) : TV m a1 s2 s3 ∧ (s4.length : Int) = m ∧ m ≤ a0 := by
  have hF := found_ok t
  have hN := nm_of (en := en) (nx := nx) hF (found_pos t)
  have hml := mbF_le (cl := clsF a0 en nx (foundL a0 nx lf)) (l := foundL a0 nx lf) (foundL a0 nx lf).length
  have hfl := hF.len
  have hts := t.s
  have h1 : 1 ≤ (mbF (clsF a0 en nx (foundL a0 nx lf)) (foundL a0 nx lf) (foundL a0 nx lf).length).length := by
    have h2 := hN.mem (found_leaf t (k := 0) (by have := t.ll; have := t.l; omega)); omega
  have hm := h.hm
  refine ⟨⟨⟨by omega, by omega⟩, t.l, ?_, ?_, allIn_of fun x hx => ?_, allIn_of fun x hx => ?_⟩, ?_, by omega⟩
  · rw [h.hlf, mpL_len]; exact t.ll
  · rw [h.hnx, nxL_len, hm]; push_cast; rfl
  · rw [h.hlf, mpL] at hx
    obtain ⟨s, hs, rfl⟩ := List.mem_map.1 hx
    obtain ⟨k, hk, rfl⟩ := List.getElem_of_mem hs
    have h3 := hN.mem (found_leaf t hk)
    have e9 : lf[k] = lf.getD k 0 := by rw [List.getD_eq_getElem?_getD, List.getElem?_eq_getElem hk]; rfl
    rw [hm, e9]; omega
  · rw [h.hnx, nxL] at hx
    obtain ⟨s, hs, hx⟩ := List.mem_flatMap.1 hx
    obtain ⟨y, hy, rfl⟩ := List.mem_map.1 hx
    obtain ⟨i, hi, rfl⟩ := mbF_mem _ _ hs
    obtain ⟨j, hj, rfl⟩ := mbF_mem _ _ hy
    have h3 := hN.mem (found_join t hi hj)
    rw [hm]; omega
  · rw [h.hen, enL_len]; exact hm.symm
theorem sm_st (t : TV a0 a1 lf nx) (h : SmOf a0 lf nx en m s2 s3 s4) : ∀ T : Tre, okTr a1 T → stT m s2 s3 T = (clsF a0 en nx (foundL a0 nx lf)).getD (stT a0 lf nx T).toNat 0
  | .leaf x, hx => by
    have h0 : 0 ≤ x ∧ x ≤ a1 - 1 := hx
    have := t.ll
    show s2.getD x.toNat 0 = _
    rw [h.hlf, mpL_get (by omega)]; rfl
  | .node a b, hx => by
    have hF := found_ok t
    have hN := nm_of (en := en) (nx := nx) hF (found_pos t)
    have fa := st_found t a hx.1; have fb := st_found t b hx.2
    have ia := sm_st t h a hx.1; have ib := sm_st t h b hx.2
    have ra := hN.mem fa; have rb := hN.mem fb
    obtain ⟨i, hi, ei⟩ := mem_found fa
    obtain ⟨j, hj, ej⟩ := mem_found fb
    have hj2 := join_class (en := en) t hi hj (c := (stT m s2 s3 a).toNat) (d := (stT m s2 s3 b).toNat) (by rw [clI, ei, ia]; omega) (by rw [clI, ej, ib]; omega) (by rw [ia]; omega) (by rw [ib]; omega)
    show s3.getD (stT m s2 s3 a * m + stT m s2 s3 b).toNat 0 = (clsF a0 en nx (foundL a0 nx lf)).getD (nx.getD (stT a0 lf nx a * a0 + stT a0 lf nx b).toNat 0).toNat 0
    rw [← ei, ← ej, ← hj2]
    have hn3 : ∀ q : Nat, s3.getD q 0 = _ := fun q => congrArg (fun z : List Int => z.getD q 0) h.hnx
    have e : (stT m s2 s3 a * m + stT m s2 s3 b).toNat = (stT m s2 s3 a).toNat * (mbF (clsF a0 en nx (foundL a0 nx lf)) (foundL a0 nx lf) (foundL a0 nx lf).length).length + (stT m s2 s3 b).toNat := by
      have hA : 0 ≤ stT m s2 s3 a := by rw [ia]; exact ra.1
      have hB : 0 ≤ stT m s2 s3 b := by rw [ib]; exact rb.1
      generalize hP : stT m s2 s3 a = P at *
      generalize hQ : stT m s2 s3 b = Q at *
      rw [h.hm]
      generalize (mbF (clsF a0 en nx (foundL a0 nx lf)) (foundL a0 nx lf) (foundL a0 nx lf).length).length = M
      have e2 : P * (M : Int) + Q = ((P.toNat * M + Q.toNat : Nat) : Int) := by push_cast; rw [Int.toNat_of_nonneg hA, Int.toNat_of_nonneg hB]
      rw [e2, Int.toNat_natCast]
    rw [e, hn3]
    exact nxL_get (by rw [ib]; omega) _ (by rw [ia]; omega)
theorem sm_read (t : TV a0 a1 lf nx) (h : SmOf a0 lf nx en m s2 s3 s4) {T : Tre} (hT : okTr a1 T) : s4.getD (stT m s2 s3 T).toNat false = en.getD (stT a0 lf nx T).toNat false := by
  have hF := found_ok t
  have hN := nm_of (en := en) (nx := nx) hF (found_pos t)
  have ft := st_found t T hT
  have rt := hN.mem ft
  obtain ⟨i, hi, ei⟩ := mem_found ft
  have it := sm_st t h T hT
  have hc : (stT m s2 s3 T).toNat < (mbF (clsF a0 en nx (foundL a0 nx lf)) (foundL a0 nx lf) (foundL a0 nx lf).length).length := by rw [it]; omega
  rw [h.hen, enL_get hc]
  obtain ⟨i2, p1, p2, p3⟩ := mb_class hN _ (Nat.le_refl _) _ hc
  rw [p2, ← ei]
  refine (clI_cong hF (cls_found t) p1 hi ?_).1
  show (clsF a0 en nx (foundL a0 nx lf)).getD (rS (foundL a0 nx lf) i2).toNat 0 = (clsF a0 en nx (foundL a0 nx lf)).getD (rS (foundL a0 nx lf) i).toNat 0
  rw [p3, ei, it]; omega
end
end Go.WX
