/- Plain laws on least parses, and the first of them; no program. No condition. -/
import Derived.Test.YthemmoceomdccaaPlD
namespace Go.WX
open Go

/-- Rule k with place m comes ahead of rule k2 with place m2. -/
def Ahead (k m k2 m2 : Nat) : Prop := m < m2 ∨ (m = m2 ∧ k < k2)
/-- Rule k with place m is the first that gives the least cost c. -/
structure Fst (rs : List R4) (wd : List Int) (i j : Nat) (a : Int) (k m : Nat) (c : Int) : Prop where
  hk : k < rs.length
  ha : (rl rs k).1 = a
  hc : Cand rs wd i j k m c
  le : ∀ c', DC rs wd i j a c' → c ≤ c'
  no : ∀ k' m' c', k' < rs.length → Ahead k' m' k m → (rl rs k').1 = a → Cand rs wd i j k' m' c' → c < c'
theorem Fst.uni {rs : List R4} {wd : List Int} {i j k m k2 m2 : Nat} {a c c2 : Int} (h : Fst rs wd i j a k m c) (g : Fst rs wd i j a k2 m2 c2) : k = k2 ∧ m = m2 ∧ c = c2 := by
  have d1 := h.hc.dc h.hk; rw [h.ha] at d1
  have d2 := g.hc.dc g.hk; rw [g.ha] at d2
  have e1 := h.le _ d2; have e2 := g.le _ d1
  have n1 : ¬ Ahead k2 m2 k m := fun hh => by have := h.no _ _ _ g.hk hh g.ha g.hc; omega
  have n2 : ¬ Ahead k m k2 m2 := fun hh => by have := g.no _ _ _ h.hk hh h.ha h.hc; omega
  unfold Ahead at n1 n2
  refine ⟨by omega, by omega, by omega⟩
/-- The rules of the first least tree. -/
inductive BT (rs : List R4) (wd : List Int) : Nat → Nat → Int → List Int → Prop
  | leaf (i j : Nat) (a : Int) (k m : Nat) (c : Int) : Fst rs wd i j a k m c → (rl rs k).2.2.1 < 0 → BT rs wd i j a [(k : Int)]
  | node (i j : Nat) (a : Int) (k m : Nat) (c : Int) (l1 l2 : List Int) : Fst rs wd i j a k m c → 0 ≤ (rl rs k).2.2.1 → BT rs wd i m (rl rs k).2.1 l1 → BT rs wd m j (rl rs k).2.2.1 l2 → BT rs wd i j a ((k : Int) :: (l1 ++ l2))
theorem BT.uni {rs : List R4} {wd : List Int} {i j : Nat} {a : Int} {l : List Int} (h : BT rs wd i j a l) : ∀ l', BT rs wd i j a l' → l = l' := by
  induction h with
  | leaf i j a k m c h1 h2 =>
    intro l' h'
    cases h' with
    | leaf _ _ _ k2 m2 c2 g1 g2 => rw [(h1.uni g1).1]
    | node _ _ _ k2 m2 c2 l1 l2 g1 g2 => have := (h1.uni g1).1; subst this; omega
  | node i j a k m c l1 l2 h1 h2 h3 h4 i1 i2 =>
    intro l' h'
    cases h' with
    | leaf _ _ _ k2 m2 c2 g1 g2 => have := (h1.uni g1).1; subst this; omega
    | node _ _ _ k2 m2 c2 m1 m3 g1 g2 g3 g4 =>
      obtain ⟨rfl, rfl, _⟩ := h1.uni g1
      rw [i1 _ g3, i2 _ g4]
theorem BT.len {rs : List R4} {wd : List Int} {i j : Nat} {a : Int} {l : List Int} (h : BT rs wd i j a l) : i < j ∧ l.length + 1 = 2 * (j - i) := by
  induction h with
  | leaf i j a k m c h1 h2 =>
    rcases h1.hc with ⟨_, rfl, _⟩ | ⟨h3, _⟩
    · simp
    · omega
  | node i j a k m c l1 l2 h1 h2 h3 h4 i1 i2 => simp only [List.length_cons, List.length_append]; omega
open Classical in
noncomputable def treeL (rs : List R4) (wd : List Int) (i j : Nat) (a : Int) : List Int := if h : ∃ l, BT rs wd i j a l then Classical.choose h else []
theorem BT.eq {rs : List R4} {wd : List Int} {i j : Nat} {a : Int} {l : List Int} (h : BT rs wd i j a l) : l = treeL rs wd i j a := by
  have he : ∃ l, BT rs wd i j a l := ⟨l, h⟩
  unfold treeL; rw [dif_pos he]
  exact h.uni _ (Classical.choose_spec he)
theorem treeL_len (rs : List R4) (wd : List Int) (i j : Nat) (a : Int) : (treeL rs wd i j a).length ≤ 2 * (j - i) := by
  unfold treeL; split
  · rename_i h; have := (Classical.choose_spec h).len; omega
  · simp
open Classical in
/-- The least cost of a tree, -1 if there is none. -/
noncomputable def leastC (rs : List R4) (wd : List Int) (i j : Nat) (a : Int) : Int := if h : ∃ c, DC rs wd i j a c ∧ ∀ c', DC rs wd i j a c' → c ≤ c' then Classical.choose h else -1
theorem leastC_of {rs : List R4} {wd : List Int} {i j : Nat} {a c : Int} (h : DC rs wd i j a c) (g : ∀ c', DC rs wd i j a c' → c ≤ c') : c = leastC rs wd i j a := by
  have he : ∃ c, DC rs wd i j a c ∧ ∀ c', DC rs wd i j a c' → c ≤ c' := ⟨c, h, g⟩
  unfold leastC; rw [dif_pos he]
  have hs := Classical.choose_spec he
  exact Int.le_antisymm (g _ hs.1) (hs.2 _ h)
theorem leastC_no {rs : List R4} {wd : List Int} {i j : Nat} {a : Int} (h : ¬ ∃ c, DC rs wd i j a c) : -1 = leastC rs wd i j a := by
  unfold leastC; rw [dif_neg]
  rintro ⟨c, hc, _⟩; exact h ⟨c, hc⟩
section
variable {rs : List R4} {wd : List Int} {F nm l v : Int} {i j : Nat} {a : Int}
theorem OkC.told (h : OkC (snF F rs wd) geF rs wd v i j a) (g : gramV nm l rs) (hF : 1000000 ≤ F) (h12 : wd.length ≤ 12) (hv : v < F) : v = leastC rs wd i j a ∧ DC rs wd i j a v ∧ ∀ c', DC rs wd i j a c' → v ≤ c' := by
  rcases h.s with e | e
  · omega
  · exact ⟨leastC_of e h.g, e, h.g⟩
theorem OkC.none (h : OkC (snF F rs wd) geF rs wd v i j a) (g : gramV nm l rs) (hF : 1000000 ≤ F) (h12 : wd.length ≤ 12) (hv : ¬ v < F) : -1 = leastC rs wd i j a ∧ ¬ ∃ c, DC rs wd i j a c := by
  have h2 : ¬ ∃ c, DC rs wd i j a c := fun hc => hv ((h.rng g hF h12).2.2.2 hc)
  exact ⟨leastC_no h2, h2⟩
end
/-! ### Walking to the first least rule -/
section
variable {rs : List R4} {wd : List Int} {nm l : Int} {i j : Nat} {a b : Int}
/-- b is the least cost of a. -/
structure Lst (rs : List R4) (wd : List Int) (i j : Nat) (a b : Int) : Prop where
  d : DC rs wd i j a b
  le : ∀ c', DC rs wd i j a c' → b ≤ c'
/-- No branch ahead of (K, M) gives b. -/
def NoN (rs : List R4) (wd : List Int) (i j : Nat) (a b : Int) (K M : Nat) : Prop := ∀ k m, k < rs.length → i < m → Ahead k m K M → (rl rs k).1 = a → ¬ Cand rs wd i j k m b
theorem NoN.zero : NoN rs wd i j a b 0 (i + 1) := fun k m _ h1 h2 _ _ => by unfold Ahead at h2; omega
theorem NoN.step {K M : Nat} (h : NoN rs wd i j a b K M) (hn : (rl rs K).1 = a → i < M → ¬ Cand rs wd i j K M b) : NoN rs wd i j a b (K + 1) M := fun k m h1 h2 h3 h4 h5 => by
  unfold Ahead at h3
  rcases h3 with h3 | ⟨rfl, h3⟩
  · exact h k m h1 h2 (.inl h3) h4 h5
  · by_cases e : k = K
    · subst e; exact hn h4 h2 h5
    · exact h k m h1 h2 (.inr ⟨rfl, by omega⟩) h4 h5
theorem NoN.next {K M : Nat} (h : NoN rs wd i j a b K M) (hK : rs.length ≤ K) : NoN rs wd i j a b 0 (M + 1) := fun k m h1 h2 h3 => by
  unfold Ahead at h3
  exact h k m h1 h2 (by unfold Ahead; omega)
theorem NoN.found {K M : Nat} (h : NoN rs wd i j a b K M) (hl : Lst rs wd i j a b) (hK : K < rs.length) (ha : (rl rs K).1 = a) (hM : i < M) (hc : Cand rs wd i j K M b) : Fst rs wd i j a K M b :=
  ⟨hK, ha, hc, hl.le, fun k m c h1 h2 h3 h4 => by
    have d := h4.dc h1; rw [h3] at d
    have e := hl.le _ d
    rcases Int.lt_or_eq_of_le e with e | e
    · exact e
    · subst e
      have p := h4.pl; have q := hc.pl
      by_cases h6 : i < m
      · exact absurd h4 (h k m h1 h6 h2 h3)
      · rcases h4 with ⟨h7, h8, _⟩ | ⟨h7, _⟩
        · omega
        · have := p.2.2.2 h7; omega⟩
/-- No leaf ahead of K gives b. -/
def NoF (rs : List R4) (wd : List Int) (i j : Nat) (a b : Int) (K : Nat) : Prop := ∀ k, k < K → k < rs.length → (rl rs k).1 = a → ¬ Cand rs wd i j k i b
theorem NoF.zero : NoF rs wd i j a b 0 := fun k h => by omega
theorem NoF.step {K : Nat} (h : NoF rs wd i j a b K) (hn : (rl rs K).1 = a → ¬ Cand rs wd i j K i b) : NoF rs wd i j a b (K + 1) := fun k h1 h2 h3 h4 => by
  by_cases e : k = K
  · subst e; exact hn h3 h4
  · exact h k (by omega) h2 h3 h4
theorem NoF.found {K : Nat} (h : NoF rs wd i j a b K) (hl : Lst rs wd i j a b) (hK : K < rs.length) (ha : (rl rs K).1 = a) (hc : Cand rs wd i j K i b) : Fst rs wd i j a K i b :=
  ⟨hK, ha, hc, hl.le, fun k m c h1 h2 h3 h4 => by
    have d := h4.dc h1; rw [h3] at d
    have e := hl.le _ d
    rcases Int.lt_or_eq_of_le e with e | e
    · exact e
    · subst e
      have p := h4.pl
      unfold Ahead at h2
      have hm : m = i := by omega
      subst hm
      exact absurd h4 (h k (by omega) h1 h3)⟩
theorem NoF.end {K M : Nat} (h : NoF rs wd i j a b K) (g : NoN rs wd i j a b 0 M) (hl : Lst rs wd i j a b) (hK : rs.length ≤ K) (hM : j ≤ M) : False := by
  obtain ⟨k, m, h1, h2, h3⟩ := hl.d.cand
  have p := h3.pl
  by_cases e : i < m
  · exact g k m h1 e (.inl (by omega)) h2 h3
  · have hm : m = i := by omega
    subst hm
    exact h k (by omega) h1 h2 h3
/-- What the reference asks of a branch. -/
theorem cand_iff {F v1 v2 : Int} {K M : Nat} (g : gramV nm l rs) (hF : 1000000 ≤ F) (h12 : wd.length ≤ 12) (hj : j ≤ wd.length) (hl : Lst rs wd i j a b) (hK : K < rs.length) (ha : (rl rs K).1 = a) (h2 : 0 ≤ (rl rs K).2.2.1)
    (o1 : OkC (snF F rs wd) geF rs wd v1 i M (rl rs K).2.1) (o2 : OkC (snF F rs wd) geF rs wd v2 M j (rl rs K).2.2.1) : v1 + v2 + (rl rs K).2.2.2 = b ↔ Cand rs wd i j K M b := by
  have r1 := o1.rng g hF h12; have r2 := o2.rng g hF h12
  have rb := hl.d.rng g; have lb := hl.d.lt
  have hk := (g.2.2.2 K hK).2.2.1
  have hk' : 0 ≤ (rl rs K).2.2.2 ∧ (rl rs K).2.2.2 ≤ 1000 := hk
  constructor
  · intro e
    have t1 := (o1.told g hF h12 (by omega)).2.1; have t2 := (o2.told g hF h12 (by omega)).2.1
    exact .inr ⟨h2, _, _, t1, t2, e.symm⟩
  · rintro (⟨h3, _⟩ | ⟨_, c1, c2, d1, d2, e⟩)
    · omega
    · have q1 : v1 ≤ c1 := o1.g _ d1; have q2 : v2 ≤ c2 := o2.g _ d2
      have s1 := r1.2.2.2 ⟨_, d1⟩; have s2 := r2.2.2.2 ⟨_, d2⟩
      have t1 := (o1.told g hF h12 s1).2.1; have t2 := (o2.told g hF h12 s2).2.1
      have d := DC.node i M j K _ _ hK h2 t1 t2
      rw [ha] at d
      have := hl.le _ d
      omega
theorem cand_leaf {K : Nat} (h2 : (rl rs K).2.2.1 < 0) (hi : i < wd.length) : (j = i + 1 ∧ (rl rs K).2.1 = wd.getD i 0 ∧ (rl rs K).2.2.2 = b) ↔ Cand rs wd i j K i b :=
  ⟨fun h => .inl ⟨h2, h.1, rfl, hi, h.2.1.symm, h.2.2.symm⟩, fun h => by
    rcases h with ⟨_, h3, _, _, h4, h5⟩ | ⟨h3, _⟩
    · exact ⟨h3, h4.symm, h5.symm⟩
    · omega⟩
end
/-! ### Tables of choices: a cost, a rule and a place in three cells -/
abbrev T3 : Type := Int × Int × Int
def tri (ys : List Int) (q : Nat) : T3 := (ys.getD (3 * q) 0, ys.getD (3 * q + 1) 0, ys.getD (3 * q + 2) 0)
def trip (ys : List Int) : List T3 := (List.range 1248).map (tri ys)
theorem trip_len (ys : List Int) : (trip ys).length = 1248 := by simp [trip]
theorem trip_get {ys : List Int} {q : Nat} (h : q < 1248) : (trip ys).getD q (0, 0, 0) = tri ys q := by simp [trip, List.getD_eq_getElem?_getD, h]
theorem getD_set_ne' {ys : List Int} {i j : Nat} {v : Int} (h : i ≠ j) : (ys.set i v).getD j 0 = ys.getD j 0 := gsetN h
theorem getD_set_eq' {ys : List Int} {i : Nat} {v : Int} (h : i < ys.length) : (ys.set i v).getD i 0 = v := gsetE h
theorem trip_set1 {ys : List Int} {q : Nat} {v : Int} (hl : ys.length = 3744) (h : q < 1248) : trip (ys.set (3 * q) v) = (trip ys).set q (v, ((trip ys).getD q (0, 0, 0)).2) := by
  rw [trip_get h]
  refine List.ext_getElem (by simp [trip]) (fun k h1 h2 => ?_)
  rw [List.getElem_set]
  simp only [trip, List.getElem_map, List.getElem_range]
  by_cases e : q = k
  · subst e
    rw [if_pos rfl]; unfold tri
    rw [getD_set_eq' (by omega), getD_set_ne' (by omega), getD_set_ne' (by omega)]
  · rw [if_neg e]; unfold tri
    rw [getD_set_ne' (by omega), getD_set_ne' (by omega), getD_set_ne' (by omega)]
theorem trip_set3 {ys : List Int} {q : Nat} {u v x : Int} (hl : ys.length = 3744) (h : q < 1248) : trip (((ys.set (3 * q) u).set (3 * q + 1) v).set (3 * q + 2) x) = (trip ys).set q (u, v, x) := by
  refine List.ext_getElem (by simp [trip]) (fun k h1 h2 => ?_)
  rw [List.getElem_set]
  simp only [trip, List.getElem_map, List.getElem_range]
  by_cases e : q = k
  · subst e
    rw [if_pos rfl]; unfold tri
    rw [getD_set_ne' (by omega), getD_set_ne' (by omega), getD_set_eq' (by omega), getD_set_ne' (by omega), getD_set_eq' (by simp; omega), getD_set_eq' (by simp; omega)]
  · rw [if_neg e]; unfold tri
    rw [getD_set_ne' (by omega), getD_set_ne' (by omega), getD_set_ne' (by omega), getD_set_ne' (by omega), getD_set_ne' (by omega), getD_set_ne' (by omega), getD_set_ne' (by omega), getD_set_ne' (by omega), getD_set_ne' (by omega)]
/-- What a cell holds: nothing yet, or the first of the cheapest so far. -/
def snT (F : Int) (rs : List R4) (wd : List Int) (i j : Nat) (a : Int) (v : T3) : Prop := v.1 = F ∨ ∃ r m : Nat, v.2.1 = (r : Int) ∧ v.2.2 = (m : Int) ∧ r < rs.length ∧ (rl rs r).1 = a ∧ Cand rs wd i j r m v.1 ∧
  ∀ k' m' c', k' < rs.length → Ahead k' m' r m → (rl rs k').1 = a → Cand rs wd i j k' m' c' → v.1 < c'
def geT (v : T3) (c : Int) : Prop := v.1 ≤ c
abbrev TPT (F : Int) (rs : List R4) (wd : List Int) (nm : Int) (ys : List Int) (L I : Nat) (P : Nat → Nat → Prop) : Prop := ys.length = 3744 ∧ TP (snT F rs wd) geT (0, 0, 0) (0, 0, 0) rs wd nm 13 8 1248 (trip ys) L I P
abbrev TCT (F : Int) (rs : List R4) (wd : List Int) (nm : Int) (ys : List Int) (L I : Nat) : Prop := ys.length = 3744 ∧ TC (snT F rs wd) geT (0, 0, 0) (0, 0, 0) rs wd nm 13 8 1248 (trip ys) L I
/-- The part I to I + L is being cleared: t names are. -/
structure TN (F : Int) (rs : List R4) (wd : List Int) (nm : Int) (ys : List Int) (L I t : Nat) : Prop where
  l : ys.length = 3744
  ok : ∀ i j, i < j → j ≤ wd.length → (j - i < L ∨ (j - i = L ∧ i < I)) → ∀ a, 0 ≤ a → a < nm → OkC (snT F rs wd) geT rs wd (cl (0, 0, 0) 13 8 (trip ys) i j a) i j a
  z : ∀ i j, i < j → j ≤ wd.length → ¬ (j - i < L ∨ (j - i = L ∧ i < I)) → ¬ (i = I ∧ j = I + L) → ∀ a, 0 ≤ a → a < nm → cl (0, 0, 0) 13 8 (trip ys) i j a = (0, 0, 0)
  so : ∀ a : Int, 0 ≤ a → a < t → (cl (0, 0, 0) 13 8 (trip ys) I (I + L) a).1 = F
section
variable {rs : List R4} {wd : List Int} {F nm l : Int} {ys : List Int} {L I K M t : Nat} {P : Nat → Nat → Prop}
theorem TN.zero (h : TCT F rs wd nm ys L I) : TN F rs wd nm ys L I 0 := ⟨h.1, h.2.ok, fun i j h1 h2 h3 _ => h.2.z i j h1 h2 h3, fun a h1 h2 => by omega⟩
theorem TN.step (h : TN F rs wd nm ys L I t) (h12 : wd.length ≤ 12) (hL : 1 ≤ L) (hI : I + L ≤ wd.length) (hn : nm ≤ 8) (ht : t < 8) : TN F rs wd nm (ys.set (3 * ((I * 13 + (I + L)) * 8 + t)) F) L I (t + 1) := by
  have hl := h.l
  have e := trip_set1 (v := F) (q := (I * 13 + (I + L)) * 8 + t) hl (by omega)
  have ne : ∀ (i j : Nat) (a : Int), j ≤ wd.length → 0 ≤ a → a < 8 → ¬ (i = I ∧ j = I + L ∧ a = (t : Int)) → cl (0, 0, 0) 13 8 (trip (ys.set (3 * ((I * 13 + (I + L)) * 8 + t)) F)) i j a = cl (0, 0, 0) 13 8 (trip ys) i j a := by
    intro i j a h1 h2 h3 h4
    rw [e]
    exact cl_ne (wd := wd) (nm := 8) (W := 13) (Nm := 8) (b := (t : Int)) (by omega) h1 hI ⟨h2, h3⟩ ⟨by omega, by omega⟩ (by omega) h4
  refine ⟨by rw [List.length_set]; exact hl, fun i j h1 h2 h3 a h4 h5 => ?_, fun i j h1 h2 h3 h6 a h4 h5 => ?_, fun a h4 h5 => ?_⟩
  · rw [ne i j a h2 h4 (by omega) (by omega)]; exact h.ok i j h1 h2 h3 a h4 h5
  · rw [ne i j a h2 h4 (by omega) (by omega)]; exact h.z i j h1 h2 h3 h6 a h4 h5
  · by_cases e2 : a = (t : Int)
    · subst e2
      rw [e]
      have := cl_eq (d := ((0 : Int), (0 : Int), (0 : Int))) (W := 13) (Nm := 8) (xs := trip ys) (L := L) (I := I) (b := (t : Int)) (v := (F, ((trip ys).getD ((I * 13 + (I + L)) * 8 + t) (0, 0, 0)).2)) (by rw [trip_len]; omega)
      rw [Int.toNat_natCast] at this
      rw [this]
    · rw [ne I (I + L) a hI h4 (by omega) (by omega)]; exact h.so a h4 (by omega)
theorem TN.done (h : TN F rs wd nm ys L I t) (ht : nm ≤ t) : TPT F rs wd nm ys L I (fun _ _ => False) :=
  ⟨h.l, trip_len ys, h.ok, h.z, fun a h1 h2 => .inl (h.so a h1 (by omega)), fun _ _ _ _ h _ => h.elim⟩
theorem TCT.zero (h12 : wd.length ≤ 12) (hs : 1 ≤ nm ∧ nm ≤ 8) : TCT F rs wd nm (List.replicate 3744 0) 1 0 := by
  refine ⟨List.length_replicate, ?_⟩
  have e : trip (List.replicate 3744 0) = List.replicate 1248 ((0, 0, 0) : T3) := by
    refine List.ext_getElem (by rw [trip_len, List.length_replicate]) (fun k h1 h2 => ?_)
    have : k < 1248 := by rw [trip_len] at h1; exact h1
    simp only [trip, tri, List.getElem_map, List.getElem_range, List.getElem_replicate, List.getD_eq_getElem?_getD, List.getElem?_replicate]
    rw [if_pos (by omega), if_pos (by omega), if_pos (by omega)]; rfl
  rw [e]
  exact TC.zero (fun i j a h1 h2 h3 h4 => by omega)
theorem TCT.next (h : TCT F rs wd nm ys L I) (hI : wd.length < I + L) : TCT F rs wd nm ys (L + 1) 0 := ⟨h.1, h.2.next hI⟩
theorem TPT.mono {P' : Nat → Nat → Prop} (h : TPT F rs wd nm ys L I P) (hm : ∀ k m c, k < rs.length → Cand rs wd I (I + L) k m c → P' k m → P k m) : TPT F rs wd nm ys L I P' := ⟨h.1, h.2.mono hm⟩
theorem TPT.fin (h : TPT F rs wd nm ys L I P) (ha : ∀ k m, k < rs.length → I ≤ m → m < I + L → P k m) : TCT F rs wd nm ys L (I + 1) := ⟨h.1, h.2.fin ha⟩
abbrev kC (i j : Nat) (a : Int) : Nat := 3 * ((i * 13 + j) * 8 + a.toNat)
/-- The cost in a cell. -/
abbrev co (ys : List Int) (i j : Nat) (a : Int) : Int := ys.getD (kC i j a) 0
theorem cl_co {i j : Nat} {a : Int} (h : (i * 13 + j) * 8 + a.toNat < 1248) : cl (0, 0, 0) 13 8 (trip ys) i j a = tri ys ((i * 13 + j) * 8 + a.toNat) := trip_get h
/-- The costs alone are a table of least costs. -/
theorem OkC.cost {v : T3} {i j : Nat} {a : Int} (h : OkC (snT F rs wd) geT rs wd v i j a) : OkC (snF F rs wd) geF rs wd v.1 i j a :=
  ⟨by
    rcases h.s with e | ⟨r, m, _, _, h1, h2, h3, _⟩
    · exact .inl e
    · have := h3.dc h1; rw [h2] at this; exact .inr this, h.g⟩
theorem OkC.fst {v : T3} {i j : Nat} {a : Int} (h : OkC (snT F rs wd) geT rs wd v i j a) (hv : v.1 < F) : ∃ r m : Nat, v.2.1 = (r : Int) ∧ v.2.2 = (m : Int) ∧ Fst rs wd i j a r m v.1 := by
  rcases h.s with e | ⟨r, m, e1, e2, h1, h2, h3, h4⟩
  · omega
  · exact ⟨r, m, e1, e2, h1, h2, h3, h.g, h4⟩
theorem TPT.leftC (h : TPT F rs wd nm ys L I P) {m : Nat} {a : Int} (h12 : wd.length ≤ 12) (hn : nm ≤ 8) (hI : I + L ≤ wd.length) (h1 : I < m) (h2 : m < I + L) (ha : 0 ≤ a ∧ a < nm) : OkC (snF F rs wd) geF rs wd (co ys I m a) I m a := by
  have := (h.2.left (m := m) hI h1 h2 ha).cost; rw [cl_co (by omega)] at this; exact this
theorem TPT.rightC (h : TPT F rs wd nm ys L I P) {m : Nat} {a : Int} (h12 : wd.length ≤ 12) (hn : nm ≤ 8) (hI : I + L ≤ wd.length) (h1 : I < m) (h2 : m < I + L) (ha : 0 ≤ a ∧ a < nm) : OkC (snF F rs wd) geF rs wd (co ys m (I + L) a) m (I + L) a := by
  have := (h.2.right (m := m) hI h1 h2 ha).cost; rw [cl_co (by omega)] at this; exact this
theorem TCT.at (h : TCT F rs wd nm ys (wd.length + 1) I) (h12 : wd.length ≤ 12) (hn : nm ≤ 8) {i j : Nat} {a : Int} (h1 : i < j) (h2 : j ≤ wd.length) (ha : 0 ≤ a ∧ a < nm) : OkC (snT F rs wd) geT rs wd (tri ys ((i * 13 + j) * 8 + a.toNat)) i j a := by
  have := h.2.at h1 h2 ha; rw [cl_co (by omega)] at this; exact this
/-- The pair (K, M) gives c, which is less than what the cell holds. -/
theorem TPT.take {c : Int} (h : TPT F rs wd nm ys L I P) (g : gramV nm l rs) (h12 : wd.length ≤ 12) (hn : nm ≤ 8) (hL : 1 ≤ L) (hI : I + L ≤ wd.length) (hK : K < rs.length) (hc : Cand rs wd I (I + L) K M c) (hlt : c < co ys I (I + L) (rl rs K).1)
    (hu : ∀ c', Cand rs wd I (I + L) K M c' → c ≤ c') (hP : ∀ k m, k < rs.length → Ahead k m K M → P k m) :
    TPT F rs wd nm (((ys.set (3 * ((I * 13 + (I + L)) * 8 + (rl rs K).1.toNat)) c).set (3 * ((I * 13 + (I + L)) * 8 + (rl rs K).1.toNat) + 1) (K : Int)).set (3 * ((I * 13 + (I + L)) * 8 + (rl rs K).1.toNat) + 2) (M : Int)) L I (fun k m => P k m ∨ (k = K ∧ m = M)) := by
  have hl := gram_left g K hK
  refine ⟨by simp only [List.length_set]; exact h.1, ?_⟩
  rw [trip_set3 h.1 (by omega)]
  have hcl : (cl (0, 0, 0) 13 8 (trip ys) I (I + L) (rl rs K).1).1 = co ys I (I + L) (rl rs K).1 := by rw [cl_co (by omega)]; rfl
  refine TP.set h.2 (by omega) hL hI hn hl (by omega) ?_ (fun c' hc' => ?_) (fun c' hc' => hu c' hc') (gram_left g)
  · refine .inr ⟨K, M, rfl, rfl, hK, rfl, hc, fun k' m' c' h1 h2 h3 h4 => ?_⟩
    have := h.2.co k' m' c' h1 (hP k' m' h1 h2) h4
    rw [h3] at this
    have q : (cl (0, 0, 0) 13 8 (trip ys) I (I + L) (rl rs K).1).1 ≤ c' := this
    show c < c'
    omega
  · have q : (cl (0, 0, 0) 13 8 (trip ys) I (I + L) (rl rs K).1).1 ≤ c' := hc'
    show c ≤ c'
    omega
theorem TPT.keep {c : Int} (h : TPT F rs wd nm ys L I P) (g : gramV nm l rs) (h12 : wd.length ≤ 12) (hn : nm ≤ 8) (hL : 1 ≤ L) (hI : I + L ≤ wd.length) (hK : K < rs.length) (hge : co ys I (I + L) (rl rs K).1 ≤ c) (hu : ∀ c', Cand rs wd I (I + L) K M c' → c ≤ c') : TPT F rs wd nm ys L I (fun k m => P k m ∨ (k = K ∧ m = M)) := by
  have hl := gram_left g K hK
  refine ⟨h.1, TP.keep h.2 (fun c' hc' => ?_)⟩
  have hcl : (cl (0, 0, 0) 13 8 (trip ys) I (I + L) (rl rs K).1).1 = co ys I (I + L) (rl rs K).1 := by rw [cl_co (by omega)]; rfl
  have := hu c' hc'
  show (cl (0, 0, 0) 13 8 (trip ys) I (I + L) (rl rs K).1).1 ≤ c'
  omega
theorem TPT.none (h : TPT F rs wd nm ys L I P) (hn : ∀ c, ¬ Cand rs wd I (I + L) K M c) : TPT F rs wd nm ys L I (fun k m => P k m ∨ (k = K ∧ m = M)) := ⟨h.1, TP.keep h.2 (fun c hc => absurd hc (hn c))⟩
theorem TPT.cellR (h : TPT F rs wd nm ys L I P) (g : gramV nm l rs) (hF : 1000000 ≤ F) (h12 : wd.length ≤ 12) (hn : nm ≤ 8) (hL : 1 ≤ L) (hI : I + L ≤ wd.length) {a : Int} (ha : 0 ≤ a ∧ a < nm) : 0 ≤ co ys I (I + L) a ∧ co ys I (I + L) a ≤ F := by
  have hcl : (cl (0, 0, 0) 13 8 (trip ys) I (I + L) a).1 = co ys I (I + L) a := by rw [cl_co (by omega)]; rfl
  rcases h.2.so a ha.1 ha.2 with e | ⟨r, m, _, _, h1, h2, h3, _⟩
  · rw [hcl] at e; omega
  · have d := h3.dc h1
    have q1 := d.rng g; have := d.lt
    rw [hcl] at q1
    omega
/-- A branch's sum, and what it says. -/
theorem branchC {v1 v2 : Int} (g : gramV nm l rs) (hF : 1000000 ≤ F) (h12 : wd.length ≤ 12) {j : Nat} (hK : K < rs.length) (h2 : 0 ≤ (rl rs K).2.2.1) (o1 : OkC (snF F rs wd) geF rs wd v1 I M (rl rs K).2.1) (o2 : OkC (snF F rs wd) geF rs wd v2 M j (rl rs K).2.2.1) :
    (∀ c', Cand rs wd I j K M c' → (rl rs K).2.2.2 + v1 + v2 ≤ c') ∧ ((rl rs K).2.2.2 + v1 + v2 < F → Cand rs wd I j K M ((rl rs K).2.2.2 + v1 + v2)) := by
  have r1 := o1.rng g hF h12; have r2 := o2.rng g hF h12
  have hk : 0 ≤ (rl rs K).2.2.2 ∧ (rl rs K).2.2.2 ≤ 1000 := (g.2.2.2 K hK).2.2.1
  refine ⟨fun c' hc => ?_, fun hlt => ?_⟩
  · rcases hc with ⟨h3, _⟩ | ⟨_, c1, c2, d1, d2, rfl⟩
    · omega
    · have q1 : v1 ≤ c1 := o1.g _ d1; have q2 : v2 ≤ c2 := o2.g _ d2
      omega
  · have t1 := (o1.told g hF h12 (by omega)).2.1; have t2 := (o2.told g hF h12 (by omega)).2.1
    exact .inr ⟨h2, _, _, t1, t2, by omega⟩
end
/-! ### One step of the choices -/
def takeZ (ys : List Int) (i j : Nat) (a c r m : Int) : List Int := if c < co ys i j a then ((ys.set (kC i j a) c).set (kC i j a + 1) r).set (kC i j a + 2) m else ys
theorem takeZ_y {ys : List Int} {i j q : Nat} {a c r m : Int} (hq : q = kC i j a) (h : c < ys.getD q 0) : ((ys.set q c).set (q + 1) r).set (q + 2) m = takeZ ys i j a c r m := by subst hq; exact (if_pos h).symm
theorem takeZ_n {ys : List Int} {i j q : Nat} {a c r m : Int} (hq : q = kC i j a) (h : ys.getD q 0 ≤ c) : ys = takeZ ys i j a c r m := by subst hq; exact (if_neg (Int.not_lt.2 h)).symm
section
variable {rs : List R4} {wd : List Int} {F nm l : Int} {ys zs : List Int} {L I K M t : Nat} {P : Nat → Nat → Prop}
theorem TPT.takeZ {c : Int} (h : TPT F rs wd nm ys L I P) (e : zs = takeZ ys I (I + L) (rl rs K).1 c (K : Int) (M : Int)) (g : gramV nm l rs) (hF : 1000000 ≤ F) (h12 : wd.length ≤ 12) (hn : nm ≤ 8) (hL : 1 ≤ L) (hI : I + L ≤ wd.length) (hK : K < rs.length) (hc : c < F → Cand rs wd I (I + L) K M c)
    (hu : ∀ c', Cand rs wd I (I + L) K M c' → c ≤ c') (hP : ∀ k m, k < rs.length → Ahead k m K M → P k m) : TPT F rs wd nm zs L I (fun k m => P k m ∨ (k = K ∧ m = M)) := by
  subst e
  have hr := h.cellR g hF h12 hn hL hI (gram_left g K hK)
  unfold WX.takeZ
  split
  · rename_i hlt
    exact h.take g h12 hn hL hI hK (hc (by have := hr.2; omega)) hlt hu hP
  · rename_i hge
    exact h.keep g h12 hn hL hI hK (by omega) hu
theorem TPT.leafZ (h : TPT F rs wd nm ys L I (fun k m => Ahead k m K M)) (e : zs = WX.takeZ ys I (I + L) (rl rs K).1 (rl rs K).2.2.2 (K : Int) (M : Int)) (g : gramV nm l rs) (hF : 1000000 ≤ F) (h12 : wd.length ≤ 12) (hn : nm ≤ 8) (hL : 1 ≤ L) (hI : I + L ≤ wd.length) (hK : K < rs.length)
    (h2 : (rl rs K).2.2.1 < 0) (hM : M = I) (h1 : L = 1) (hw : wd.getD I 0 = (rl rs K).2.1) : TPT F rs wd nm zs L I (fun k m => Ahead k m (K + 1) M) := by
  subst hM
  have hc : Cand rs wd M (M + L) K M (rl rs K).2.2.2 := .inl ⟨h2, by omega, rfl, by omega, hw, rfl⟩
  refine (h.takeZ e g hF h12 hn hL hI hK (fun _ => hc) (fun c' hc' => ?_) (fun k m _ hh => hh)).mono (fun k m c hk hc' hh => by unfold Ahead at hh ⊢; omega)
  rcases hc' with ⟨_, _, _, _, _, rfl⟩ | ⟨h3, _⟩ <;> omega
theorem TPT.nodeZ {k1 k2 : Nat} (h : TPT F rs wd nm ys L I (fun k m => Ahead k m K M)) (e : zs = WX.takeZ ys I (I + L) (rl rs K).1 ((rl rs K).2.2.2 + ys.getD k1 0 + ys.getD k2 0) (K : Int) (M : Int)) (e1 : k1 = kC I M (rl rs K).2.1) (e2 : k2 = kC M (I + L) (rl rs K).2.2.1)
    (g : gramV nm l rs) (hF : 1000000 ≤ F) (h12 : wd.length ≤ 12) (hn : nm ≤ 8) (hL : 1 ≤ L) (hI : I + L ≤ wd.length) (hK : K < rs.length)
    (h2 : 0 ≤ (rl rs K).2.2.1) (h3 : I < M) (h4 : M < I + L) : TPT F rs wd nm zs L I (fun k m => Ahead k m (K + 1) M) := by
  subst e1 e2
  have hnn := gram_node g hK h2
  have o1 := h.leftC (m := M) h12 hn hI h3 h4 hnn.1; have o2 := h.rightC (m := M) h12 hn hI h3 h4 hnn.2
  have b := branchC (I := I) (M := M) (j := I + L) g hF h12 hK h2 o1 o2
  exact (h.takeZ e g hF h12 hn hL hI hK b.2 b.1 (fun k m _ hh => hh)).mono (fun k m c hk hc' hh => by unfold Ahead at hh ⊢; omega)
theorem TPT.skip (h : TPT F rs wd nm ys L I (fun k m => Ahead k m K M)) (hn : ∀ c, ¬ Cand rs wd I (I + L) K M c) : TPT F rs wd nm ys L I (fun k m => Ahead k m (K + 1) M) :=
  (h.none hn).mono (fun k m c hk hc' hh => by unfold Ahead at hh ⊢; omega)
theorem noCand_leaf (h2 : (rl rs K).2.2.1 < 0) (h : ¬ (M = I ∧ L = 1 ∧ wd.getD I 0 = (rl rs K).2.1)) : ∀ c, ¬ Cand rs wd I (I + L) K M c := fun c hc => by
  rcases hc with ⟨_, h3, h4, _, h5, _⟩ | ⟨h3, _⟩
  · exact h ⟨h4, by omega, h5⟩
  · omega
theorem noCand_node (h2 : 0 ≤ (rl rs K).2.2.1) (h : M ≤ I) : ∀ c, ¬ Cand rs wd I (I + L) K M c := fun c hc => by
  have := hc.pl.2.2.2 h2; omega
end
/-! ### The whole word's cell -/
theorem topIx {n : Nat} {s : Int} (hn : n ≤ 12) (hs : 1 ≤ s ∧ s ≤ 8) : 0 ≤ (n : Int) * s ∧ (n : Int) * s < ((((n : Int) + 1) * (n + 1) * s).toNat : Int) ∧ (n : Int) * s ≤ 1352 ∧ ((n : Int) * s).toNat = (0 * (n + 1) + n) * s.toNat + (0 : Int).toNat := by
  have z := ixC (x := 0) (y := n) (n := n) (s := s) (r := 0) (by omega) (by omega) hn hs (by omega)
  have e : (((0 : Nat) : Int) * ((n : Int) + 1) + (n : Int)) * s = (n : Int) * s := by simp
  rw [e] at z
  have z1 := z.2.1; have z2 := z.2.2.1; have z3 := z.2.2.2.1
  rw [Int.add_zero] at z2 z3
  exact ⟨z1.1, by omega, z1.2, z3⟩
theorem TC.top {F nm : Int} {rs : List R4} {wd : List Int} {ys : List Int} {I N : Nat} (h : TCF F rs wd nm (wd.length + 1) nm.toNat N ys (wd.length + 1) I) (h12 : 1 ≤ wd.length ∧ wd.length ≤ 12) (hs : 1 ≤ nm ∧ nm ≤ 8) : OkC (snF F rs wd) geF rs wd (ys.getD ((wd.length : Int) * nm).toNat 0) 0 wd.length 0 := by
  have o := h.at (i := 0) (j := wd.length) (a := 0) (by omega) (by omega) (by omega)
  rw [(topIx h12.2 hs).2.2.2]
  exact o
theorem TCT.topC {F nm : Int} {rs : List R4} {wd : List Int} {ys : List Int} {I k : Nat} (h : TCT F rs wd nm ys (wd.length + 1) I) (h12 : 1 ≤ wd.length ∧ wd.length ≤ 12) (hs : 1 ≤ nm ∧ nm ≤ 8) (hk : k = wd.length * 24) : OkC (snF F rs wd) geF rs wd (ys.getD k 0) 0 wd.length 0 := by
  have o := (h.at h12.2 hs.2 (i := 0) (j := wd.length) (a := 0) (by omega) (by omega) (by omega)).cost
  have e : (tri ys ((0 * 13 + wd.length) * 8 + (0 : Int).toNat)).1 = ys.getD k 0 := by
    show ys.getD (3 * ((0 * 13 + wd.length) * 8 + 0)) 0 = _
    congr 1; omega
  rwa [e] at o
theorem told_eq {F nm l v : Int} {rs : List R4} {wd : List Int} {i j : Nat} {a : Int} (o : OkC (snF F rs wd) geF rs wd v i j a) (g : gramV nm l rs) (hF : 1000000 ≤ F) (h12 : wd.length ≤ 12) : (if F ≤ v then -1 else v) = leastC rs wd i j a := by
  split
  · exact (o.none g hF h12 (by omega)).1
  · exact (o.told g hF h12 (by omega)).1
/-! ### There is a first least tree -/
theorem exMin {α : Type} (P : α → Prop) (f : α → Nat) (h : ∃ x, P x) : ∃ x, P x ∧ ∀ y, P y → f x ≤ f y := by
  obtain ⟨x, hx⟩ := h
  have : ∀ (n : Nat) (x : α), f x ≤ n → P x → ∃ x, P x ∧ ∀ y, P y → f x ≤ f y := by
    intro n
    induction n with
    | zero => intro x h1 h2; exact ⟨x, h2, fun y _ => by omega⟩
    | succ n ih =>
      intro x h1 h2
      by_cases h : ∃ y, P y ∧ f y < f x
      · obtain ⟨y, h3, h4⟩ := h; exact ih y (by omega) h3
      · exact ⟨x, h2, fun y h3 => Nat.le_of_not_lt fun h4 => h ⟨y, h3, h4⟩⟩
  exact this _ x (Nat.le_refl _) hx
theorem Lst.ex {rs : List R4} {wd : List Int} {nm l : Int} (g : gramV nm l rs) {i j : Nat} {a c : Int} (h : DC rs wd i j a c) : ∃ b, Lst rs wd i j a b := by
  obtain ⟨b, h1, h2⟩ := exMin (fun c => DC rs wd i j a c) Int.toNat ⟨c, h⟩
  refine ⟨b, h1, fun c' hc' => ?_⟩
  have := h2 c' hc'; have := (h1.rng g).2.1; have := (hc'.rng g).2.1
  omega
theorem ahead_lt {N k m k2 m2 : Nat} (hk : k < N) (h : Ahead k m k2 m2) : m * N + k < m2 * N + k2 := by
  unfold Ahead at h
  rcases h with h | ⟨rfl, h⟩
  · have := Nat.mul_le_mul_right N (show m + 1 ≤ m2 from h)
    rw [Nat.add_mul] at this; omega
  · omega
theorem Fst.ex {rs : List R4} {wd : List Int} {nm l : Int} (g : gramV nm l rs) {i j : Nat} {a b : Int} (h : Lst rs wd i j a b) : ∃ k m, Fst rs wd i j a k m b := by
  obtain ⟨k0, m0, h1, h2, h3⟩ := h.d.cand
  obtain ⟨⟨k, m⟩, ⟨h4, h5, h6⟩, h7⟩ := exMin (fun q : Nat × Nat => q.1 < rs.length ∧ (rl rs q.1).1 = a ∧ Cand rs wd i j q.1 q.2 b) (fun q => q.2 * rs.length + q.1) ⟨(k0, m0), h1, h2, h3⟩
  refine ⟨k, m, h4, h5, h6, h.le, fun k' m' c' g1 g2 g3 g4 => ?_⟩
  have d := g4.dc g1; rw [g3] at d
  rcases Int.lt_or_eq_of_le (h.le _ d) with e | e
  · exact e
  · subst e
    have := h7 (k', m') ⟨g1, g3, g4⟩
    have := ahead_lt g1 g2
    simp only at *
    omega
theorem BT.ex {rs : List R4} {wd : List Int} {nm l : Int} (g : gramV nm l rs) : ∀ (n : Nat) {i j : Nat} {a c : Int}, j - i ≤ n → DC rs wd i j a c → ∃ l, BT rs wd i j a l
  | 0, i, j, a, c, h, d => by have := d.lt; omega
  | n + 1, i, j, a, c, h, d => by
    obtain ⟨b, hb⟩ := Lst.ex g d
    obtain ⟨k, m, hf⟩ := Fst.ex g hb
    have p := hf.hc.pl
    rcases Int.lt_or_le (rl rs k).2.2.1 0 with h2 | h2
    · exact ⟨_, .leaf i j a k m b hf h2⟩
    · rcases hf.hc with ⟨h3, _⟩ | ⟨_, c1, c2, d1, d2, _⟩
      · omega
      · have := d1.lt; have := d2.lt
        obtain ⟨l1, b1⟩ := BT.ex g n (by omega) d1
        obtain ⟨l2, b2⟩ := BT.ex g n (by omega) d2
        exact ⟨_, .node i j a k m b l1 l2 hf h2 b1 b2⟩
theorem treeL_leaf {rs : List R4} {wd : List Int} {i j k m : Nat} {a c : Int} (h : Fst rs wd i j a k m c) (h2 : (rl rs k).2.2.1 < 0) : [(k : Int)] = treeL rs wd i j a := (BT.leaf i j a k m c h h2).eq
theorem treeL_node {rs : List R4} {wd : List Int} {nm l : Int} (g : gramV nm l rs) {i j k m : Nat} {a c : Int} (h : Fst rs wd i j a k m c) (h2 : 0 ≤ (rl rs k).2.2.1) :
    [(k : Int)] ++ treeL rs wd i m (rl rs k).2.1 ++ treeL rs wd m j (rl rs k).2.2.1 = treeL rs wd i j a := by
  rcases h.hc with ⟨h3, _⟩ | ⟨_, c1, c2, d1, d2, _⟩
  · omega
  · obtain ⟨l1, b1⟩ := BT.ex g _ (Nat.le_refl _) d1
    obtain ⟨l2, b2⟩ := BT.ex g _ (Nat.le_refl _) d2
    rw [← b1.eq, ← b2.eq]
    exact (BT.node i j a k m c l1 l2 h h2 b1 b2).eq
theorem treeL_nodeU {rs : List R4} {wd : List Int} {nm l : Int} (g : gramV nm l rs) {i j k m : Nat} {a c : Int} {us : List Int} (h : Fst rs wd i j a k m c) (h2 : 0 ≤ (rl rs k).2.2.1) :
    us ++ [(k : Int)] ++ treeL rs wd i m (rl rs k).2.1 ++ treeL rs wd m j (rl rs k).2.2.1 = us ++ treeL rs wd i j a := by
  rw [← treeL_node g h h2]; simp only [List.append_assoc]
theorem treeL_len1 {rs : List R4} {wd : List Int} {i j : Nat} {a : Int} (h : i < j) : (treeL rs wd i j a).length + 1 ≤ 2 * (j - i) := by
  unfold treeL; split
  · rename_i h; have := (Classical.choose_spec h).len; omega
  · simp; omega
theorem Fst.sub {rs : List R4} {wd : List Int} {F nm l : Int} {ys : List Int} {I i j k m : Nat} {a c : Int} (h : Fst rs wd i j a k m c) (T : TCT F rs wd nm ys (wd.length + 1) I) (g : gramV nm l rs) (hF : 1000000 ≤ F) (h12 : wd.length ≤ 12) (hj : j ≤ wd.length) (h2 : 0 ≤ (rl rs k).2.2.1) :
    (i < m ∧ m < j) ∧ (0 ≤ (rl rs k).2.1 ∧ (rl rs k).2.1 < nm) ∧ (0 ≤ (rl rs k).2.2.1 ∧ (rl rs k).2.2.1 < nm) ∧ co ys i m (rl rs k).2.1 < F ∧ co ys m j (rl rs k).2.2.1 < F := by
  rcases h.hc with ⟨h3, _⟩ | ⟨_, c1, c2, d1, d2, _⟩
  · omega
  · have e1 := d1.lt; have e2 := d2.lt
    have gn := gram_node g h.hk h2
    have o1 := (T.at h12 g.1.2 e1.1 (by omega) gn.1).cost; have o2 := (T.at h12 g.1.2 e2.1 (by omega) gn.2).cost
    exact ⟨⟨e1.1, e2.1⟩, gn.1, gn.2, (o1.rng g hF h12).2.2.2 ⟨_, d1⟩, (o2.rng g hF h12).2.2.2 ⟨_, d2⟩⟩
theorem TC.atI {F nm : Int} {rs : List R4} {wd : List Int} {ys : List Int} {I N i j : Nat} {a : Int} (h : TCF F rs wd nm (wd.length + 1) nm.toNat N ys (wd.length + 1) I) (h12 : wd.length ≤ 12) (hs : 1 ≤ nm ∧ nm ≤ 8) (h1 : i < j) (h2 : j ≤ wd.length) (ha : 0 ≤ a ∧ a < nm) :
    OkC (snF F rs wd) geF rs wd (ys.getD (((i : Int) * ((wd.length : Int) + 1) + (j : Int)) * nm + a).toNat 0) i j a := by
  have o := h.at h1 h2 ha
  rw [(ixC (x := i) (y := j) (n := wd.length) (by omega) h2 h12 hs ha).2.2.2.1]
  exact o
open Classical in
/-- Whether a word has a tree. -/
noncomputable def canP (a0 a1 : Int) (rs : List R4) (xs : List Int) : Bool := canB a0 a1 rs xs && decide (∃ c, DC rs xs 0 xs.length 0 c)
theorem canP_n1 {a0 a1 : Int} {rs : List R4} {xs : List Int} (h : canB a0 a1 rs xs = false) : false = canP a0 a1 rs xs := by simp [canP, h]
theorem canP_n2 {a0 a1 : Int} {rs : List R4} {xs : List Int} (h : ¬ ∃ c, DC rs xs 0 xs.length 0 c) : false = canP a0 a1 rs xs := by simp [canP, h]
theorem canP_y {a0 a1 : Int} {rs : List R4} {xs : List Int} (h : canB a0 a1 rs xs = true) (h2 : ∃ c, DC rs xs 0 xs.length 0 c) : true = canP a0 a1 rs xs := by simp [canP, h, h2]
theorem canP_len (a0 a1 : Int) (rs : List R4) (xs : List Int) : (onT (canP a0 a1 rs xs) (treeL rs xs 0 xs.length 0)).length ≤ 48 := by
  by_cases h : canP a0 a1 rs xs = true
  · rw [onT_yes h]
    have h1 : canB a0 a1 rs xs = true := by simp only [canP, Bool.and_eq_true] at h; exact h.1
    have := canB_y h1; have := treeL_len rs xs 0 xs.length 0; omega
  · rw [onT_no h]; simp
end Go.WX
