/- Classes of found states that cannot be told apart, and the smallest machine of trees; no program. No condition. -/
import Derived.Test.YthemmoceomdccaaPlFt
import Derived.Test.YthemmoceomdccaaLibKa
namespace Go.WX
open Go

/-! ### What is found is closed -/
theorem pre_get {l m : List R4} (h : l <+: m) {i : Nat} (hi : i < l.length) : rS m i = rS l i := by
  obtain ⟨t, rfl⟩ := h
  rw [rS, rS, getD4_left _ hi]
theorem pre_len {l m : List R4} (h : l <+: m) : l.length ≤ m.length := h.length_le
theorem pre_mem {l m : List R4} (h : l <+: m) {s : Int} (hs : s ∈ l.map (·.1)) : s ∈ m.map (·.1) := by
  obtain ⟨t, rfl⟩ := h
  rw [List.map_append]; exact List.mem_append_left _ hs
theorem rowA_pre (a0 : Int) (nx : List Int) (l : List R4) (m : Nat) : ∀ x : Nat, l <+: rowA a0 nx l m x
  | 0 => List.prefix_refl _
  | x + 1 => (rowA_pre a0 nx l m x).trans (putF_pre _ _)
theorem rowB_pre (a0 : Int) (nx : List Int) (l : List R4) (m : Nat) : ∀ x : Nat, l <+: rowB a0 nx l m x
  | 0 => List.prefix_refl _
  | x + 1 => (rowB_pre a0 nx l m x).trans (putF_pre _ _)
theorem rowA_mono (a0 : Int) (nx : List Int) (l : List R4) (m x : Nat) : ∀ d : Nat, rowA a0 nx l m x <+: rowA a0 nx l m (x + d)
  | 0 => List.prefix_refl _
  | d + 1 => (rowA_mono a0 nx l m x d).trans (putF_pre _ _)
theorem rowB_mono (a0 : Int) (nx : List Int) (l : List R4) (m x : Nat) : ∀ d : Nat, rowB a0 nx l m x <+: rowB a0 nx l m (x + d)
  | 0 => List.prefix_refl _
  | d + 1 => (rowB_mono a0 nx l m x d).trans (putF_pre _ _)
theorem genF_pre (a0 : Int) (nx lf : List Int) (m : Nat) : genF a0 nx lf m <+: genF a0 nx lf (m + 1) := by
  rw [genF]
  split
  · exact (rowA_pre _ _ _ _ _).trans (rowB_pre _ _ _ _ _)
  · exact List.prefix_refl _
theorem genF_mono (a0 : Int) (nx lf : List Int) (m : Nat) : ∀ d : Nat, genF a0 nx lf m <+: genF a0 nx lf (m + d)
  | 0 => List.prefix_refl _
  | d + 1 => (genF_mono a0 nx lf m d).trans (genF_pre _ _ _ _)
theorem lfF_mono (lf : List Int) (m : Nat) : ∀ d : Nat, lfF lf m <+: lfF lf (m + d)
  | 0 => List.prefix_refl _
  | d + 1 => (lfF_mono lf m d).trans (putF_pre _ _)
section
variable {a0 a1 : Int} {lf nx : List Int}
theorem gen_found (t : TV a0 a1 lf nx) (m : Nat) : genF a0 nx lf m <+: foundL a0 nx lf := by
  have h := genF_mono a0 nx lf m 16
  have e : genF a0 nx lf (m + 16) = foundL a0 nx lf := genF_done t (by have := (genF_ok t (m + 16)).len; have := t.s; omega)
  rwa [e] at h
theorem found_leaf (t : TV a0 a1 lf nx) {k : Nat} (hk : k < lf.length) : lf.getD k 0 ∈ (foundL a0 nx lf).map (·.1) := by
  have h1 : lf.getD k 0 ∈ (lfF lf (k + 1)).map (·.1) := putF_mem (lfF lf k) (lf.getD k 0, (k : Int), 0, 0)
  have h2 := lfF_mono lf (k + 1) (lf.length - (k + 1))
  rw [show k + 1 + (lf.length - (k + 1)) = lf.length by omega] at h2
  exact pre_mem (h2.trans (gen_found t 0)) h1
theorem found_pos (t : TV a0 a1 lf nx) : 1 ≤ (foundL a0 nx lf).length := by
  have h1 := found_leaf t (k := 0) (by have := t.ll; have := t.l; omega)
  have h2 : 0 < ((foundL a0 nx lf).map (·.1)).length := List.length_pos_of_mem h1
  rw [map1_len] at h2; exact h2
theorem gen_at (t : TV a0 a1 lf nx) {m : Nat} (hm : m < (foundL a0 nx lf).length) : m < (genF a0 nx lf m).length := by
  rcases Nat.lt_or_ge m (genF a0 nx lf m).length with h | h
  · exact h
  · rw [genF_done t h] at h; omega
theorem found_join (t : TV a0 a1 lf nx) {x y : Nat} (hx : x < (foundL a0 nx lf).length) (hy : y < (foundL a0 nx lf).length) :
    nx.getD (rS (foundL a0 nx lf) x * a0 + rS (foundL a0 nx lf) y).toNat 0 ∈ (foundL a0 nx lf).map (·.1) := by
  by_cases e : x < y
  · have h0 := gen_at t hy
    obtain ⟨_, h2⟩ := rowA_ok t (genF_ok t y) h0 x (by omega)
    have h3 := putF_mem (rowA a0 nx (genF a0 nx lf y) y x) (pairF a0 nx (rowA a0 nx (genF a0 nx lf y) y x) x y)
    have p1 : rowA a0 nx (genF a0 nx lf y) y (x + 1) <+: foundL a0 nx lf := by
      have q1 := rowA_mono a0 nx (genF a0 nx lf y) y (x + 1) (y - (x + 1))
      rw [show x + 1 + (y - (x + 1)) = y by omega] at q1
      have q2 := q1.trans (rowB_pre a0 nx _ y (y + 1))
      rw [← genF_succ h0] at q2
      exact q2.trans (gen_found t _)
    have p0 : rowA a0 nx (genF a0 nx lf y) y x <+: foundL a0 nx lf := (putF_pre _ _).trans p1
    rw [pre_get p0 (by omega), pre_get p0 (by omega)]
    exact pre_mem p1 h3
  · have h0 := gen_at t hx
    obtain ⟨h1, h2⟩ := rowA_ok t (genF_ok t x) h0 x (Nat.le_refl _)
    obtain ⟨_, h4⟩ := rowB_ok t h1 (Nat.lt_of_lt_of_le h0 h2) y (by omega)
    have h3 := putF_mem (rowB a0 nx (rowA a0 nx (genF a0 nx lf x) x x) x y) (pairF a0 nx (rowB a0 nx (rowA a0 nx (genF a0 nx lf x) x x) x y) x y)
    have p1 : rowB a0 nx (rowA a0 nx (genF a0 nx lf x) x x) x (y + 1) <+: foundL a0 nx lf := by
      have q1 := rowB_mono a0 nx (rowA a0 nx (genF a0 nx lf x) x x) x (y + 1) (x + 1 - (y + 1))
      rw [show y + 1 + (x + 1 - (y + 1)) = x + 1 by omega] at q1
      rw [← genF_succ h0] at q1
      exact q1.trans (gen_found t _)
    have p0 : rowB a0 nx (rowA a0 nx (genF a0 nx lf x) x x) x y <+: foundL a0 nx lf := (putF_pre _ _).trans p1
    rw [pre_get p0 (by omega), pre_get p0 (by omega)]
    exact pre_mem p1 h3
end

/-! ### Rounds -/
def c0F (a0 : Int) (en : List Bool) (l : List R4) : Nat → List Int
  | 0 => List.replicate a0.toNat (-1)
  | k + 1 => (c0F a0 en l k).set (rS l k).toNat (if en.getD (rS l k).toNat false = true then 1 else 0)
def keyF (a0 : Int) (nx : List Int) (l : List R4) (cl : List Int) (i : Nat) : Nat → List Int
  | 0 => [cl.getD (rS l i).toNat 0]
  | j + 1 => keyF a0 nx l cl i j ++ [cl.getD (nx.getD (rS l i * a0 + rS l j).toNat 0).toNat 0, cl.getD (nx.getD (rS l j * a0 + rS l i).toNat 0).toNat 0]
def putK (ks : List (List Int)) (k : List Int) : List (List Int) := if ixK ks k < ks.length then ks else ks ++ [k]
def ksF (a0 : Int) (nx : List Int) (l : List R4) (cl : List Int) : Nat → List (List Int)
  | 0 => []
  | i + 1 => putK (ksF a0 nx l cl i) (keyF a0 nx l cl i l.length)
def nxF (a0 : Int) (nx : List Int) (l : List R4) (cl : List Int) : Nat → List Int
  | 0 => List.replicate a0.toNat (-1)
  | i + 1 => (nxF a0 nx l cl i).set (rS l i).toNat (ixK (ksF a0 nx l cl i) (keyF a0 nx l cl i l.length) : Int)
def clF (a0 : Int) (en : List Bool) (nx : List Int) (l : List R4) : Nat → List Int
  | 0 => c0F a0 en l l.length
  | n + 1 => nxF a0 nx l (clF a0 en nx l n) l.length
section
variable {a0 a1 : Int} {lf nx cl : List Int} {en : List Bool} {l : List R4} {k i j : Nat} {ks : List (List Int)} {key : List Int}
theorem c0F_len : ∀ k : Nat, (c0F a0 en l k).length = a0.toNat
  | 0 => by simp [c0F]
  | k + 1 => by rw [c0F, List.length_set, c0F_len k]
theorem keyF_len : ∀ j : Nat, (keyF a0 nx l cl i j).length = 1 + 2 * j
  | 0 => rfl
  | j + 1 => by rw [keyF, List.length_append, keyF_len j]; simp; omega
theorem putK_old (h : ixK ks key < ks.length) : putK ks key = ks := by rw [putK, if_pos h]
theorem putK_new (h : ¬ ixK ks key < ks.length) : putK ks key = ks ++ [key] := by rw [putK, if_neg h]
theorem putK_len : ks.length ≤ (putK ks key).length ∧ (putK ks key).length ≤ ks.length + 1 := by unfold putK; split <;> simp
theorem ksF_mem : ∀ (i : Nat), ∀ y ∈ ksF a0 nx l cl i, y.length = 1 + 2 * l.length
  | 0, y, h => by simp [ksF] at h
  | i + 1, y, h => by
    rw [ksF] at h
    unfold putK at h
    split at h
    · exact ksF_mem i y h
    · rcases List.mem_append.1 h with h | h
      · exact ksF_mem i y h
      · rw [List.mem_singleton.1 h, keyF_len]
theorem ksF_le : ∀ i : Nat, (ksF a0 nx l cl i).length ≤ i
  | 0 => Nat.le_refl _
  | i + 1 => by rw [ksF]; have := ksF_le i; have := putK_len (ks := ksF a0 nx l cl i) (key := keyF a0 nx l cl i l.length); omega
theorem nxF_len : ∀ i : Nat, (nxF a0 nx l cl i).length = a0.toNat
  | 0 => by simp [nxF]
  | i + 1 => by rw [nxF, List.length_set, nxF_len i]
theorem clF_len : ∀ n : Nat, (clF a0 en nx l n).length = a0.toNat
  | 0 => c0F_len _
  | n + 1 => nxF_len _
theorem ixK_hit (h : ∀ j : Nat, j < k → ks.getD j [] ≠ key) (hk : k < ks.length) (e : ks.getD k [] = key) : ixK ks key = k := by
  have hg : ∀ j (hj : j < ks.length), ks.getD j [] = ks[j] := fun j hj => by rw [List.getD_eq_getElem?_getD, List.getElem?_eq_getElem hj]; rfl
  rw [ixK, List.findIdx_eq hk]
  refine ⟨decide_eq_true (by rw [← hg k hk]; exact e), fun j hj => decide_eq_false ?_⟩
  rw [← hg j (by omega)]; exact h j hj
theorem ixK_no (h : ∀ j : Nat, j < k → ks.getD j [] ≠ key) (hk : ks.length ≤ k) : ixK ks key = ks.length := by
  rw [ixK, List.findIdx_eq_length.2 (fun y hy => decide_eq_false (fun e => ?_))]
  obtain ⟨j, hj, e2⟩ := List.getElem_of_mem hy
  exact h j (by omega) (by rw [List.getD_eq_getElem?_getD, List.getElem?_eq_getElem hj, ← e]; exact e2)
theorem ixK_get (h : ixK ks key < ks.length) : ks.getD (ixK ks key) [] = key := by
  have := List.findIdx_getElem (p := fun y : List Int => decide (y = key)) (w := h)
  rw [List.getD_eq_getElem?_getD, List.getElem?_eq_getElem h]
  exact of_decide_eq_true this
/-! The names of the found states. -/
theorem set_get_ne {xs : List Int} {p q : Nat} {u : Int} (h : p ≠ q) : (xs.set p u).getD q 0 = xs.getD q 0 := by
  rw [List.getD_eq_getElem?_getD, List.getElem?_set_ne h, List.getD_eq_getElem?_getD]
theorem set_get_eq {xs : List Int} {p : Nat} {u : Int} (h : p < xs.length) : (xs.set p u).getD p 0 = u := by
  rw [List.getD_eq_getElem?_getD, List.getElem?_set_self h]; rfl
theorem FO.ne (h : FO a0 a1 l) {i j : Nat} (hi : i < l.length) (hj : j < l.length) (e : i ≠ j) : (rS l i).toNat ≠ (rS l j).toNat := by
  have hn := h.nd
  have h1 := h.st hi; have h2 := h.st hj
  intro e2
  have e3 : rS l i = rS l j := by omega
  rw [rS_at hi, rS_at hj] at e3
  have h3 : (l.map (·.1))[i]'(by rw [map1_len]; exact hi) = (l.map (·.1))[j]'(by rw [map1_len]; exact hj) := by rw [List.getElem_map, List.getElem_map]; exact e3
  exact e ((List.getElem_inj hn).1 h3)
theorem nxF_at (h : FO a0 a1 l) (hi : i < l.length) : ∀ d : Nat, i + 1 + d ≤ l.length → (nxF a0 nx l cl (i + 1 + d)).getD (rS l i).toNat 0 = (ixK (ksF a0 nx l cl i) (keyF a0 nx l cl i l.length) : Int)
  | 0, _ => by
    have := h.st hi
    show (nxF a0 nx l cl (i + 1)).getD _ 0 = _
    rw [nxF, set_get_eq (by rw [nxF_len]; omega)]
  | d + 1, hd => by
    show (nxF a0 nx l cl (i + 1 + d + 1)).getD _ 0 = _
    rw [nxF, set_get_ne (h.ne (by omega) hi (by omega)), nxF_at h hi d (by omega)]
theorem nxF_name (h : FO a0 a1 l) (hi : i < l.length) : (nxF a0 nx l cl l.length).getD (rS l i).toNat 0 = (ixK (ksF a0 nx l cl i) (keyF a0 nx l cl i l.length) : Int) := by
  have := nxF_at (a0 := a0) (nx := nx) (cl := cl) h hi (l.length - (i + 1)) (by omega)
  rwa [show i + 1 + (l.length - (i + 1)) = l.length by omega] at this
theorem c0F_at (h : FO a0 a1 l) (hi : i < l.length) : ∀ d : Nat, i + 1 + d ≤ l.length → (c0F a0 en l (i + 1 + d)).getD (rS l i).toNat 0 = if en.getD (rS l i).toNat false = true then 1 else 0
  | 0, _ => by
    have := h.st hi
    show (c0F a0 en l (i + 1)).getD _ 0 = _
    rw [c0F, set_get_eq (by rw [c0F_len]; omega)]
  | d + 1, hd => by
    show (c0F a0 en l (i + 1 + d + 1)).getD _ 0 = _
    rw [c0F, set_get_ne (h.ne (by omega) hi (by omega)), c0F_at h hi d (by omega)]
theorem c0F_name (h : FO a0 a1 l) (hi : i < l.length) : (c0F a0 en l l.length).getD (rS l i).toNat 0 = if en.getD (rS l i).toNat false = true then 1 else 0 := by
  have := c0F_at (a0 := a0) (en := en) h hi (l.length - (i + 1)) (by omega)
  rwa [show i + 1 + (l.length - (i + 1)) = l.length by omega] at this
/-! Steps for the walks. -/
theorem c0F_yes (h : en.getD (rS l k).toNat false = true) : ((c0F a0 en l k).set (rS l k).toNat 0).set (rS l k).toNat 1 = c0F a0 en l (k + 1) := by rw [List.set_set, c0F, if_pos h]
theorem c0F_no (h : en.getD (rS l k).toNat false = false) : (c0F a0 en l k).set (rS l k).toNat 0 = c0F a0 en l (k + 1) := by rw [c0F, if_neg (by rw [h]; decide)]
end

/-! ### The members of classes -/
noncomputable def clsF (a0 : Int) (en : List Bool) (nx : List Int) (l : List R4) : List Int := Classical.choose (⟨clF a0 en nx l l.length, rfl⟩ : ∃ c, c = clF a0 en nx l l.length)
theorem clsF_eq (a0 : Int) (en : List Bool) (nx : List Int) (l : List R4) : clsF a0 en nx l = clF a0 en nx l l.length := Classical.choose_spec (⟨clF a0 en nx l l.length, rfl⟩ : ∃ c, c = clF a0 en nx l l.length)
def mbF (cl : List Int) (l : List R4) : Nat → List Int
  | 0 => []
  | k + 1 => if cl.getD (rS l k).toNat 0 = ((mbF cl l k).length : Int) then mbF cl l k ++ [rS l k] else mbF cl l k
/-- Names that come up in order. -/
structure Nm (cl : List Int) (l : List R4) : Prop where
  ord : ∀ k : Nat, k < l.length → 0 ≤ cl.getD (rS l k).toNat 0 ∧ cl.getD (rS l k).toNat 0 ≤ ((mbF cl l k).length : Int)
def rgI (n : Nat) : List Int := (List.range n).map fun i : Nat => (i : Int)
section
variable {a0 a1 : Int} {lf nx cl : List Int} {en : List Bool} {l : List R4} {k n : Nat} {x : Int}
theorem mbF_yes (h : cl.getD (rS l k).toNat 0 = ((mbF cl l k).length : Int)) : mbF cl l (k + 1) = mbF cl l k ++ [rS l k] := by rw [mbF, if_pos h]
theorem mbF_no (h : ¬ cl.getD (rS l k).toNat 0 = ((mbF cl l k).length : Int)) : mbF cl l (k + 1) = mbF cl l k := by rw [mbF, if_neg h]
theorem mbF_le : ∀ k : Nat, (mbF cl l k).length ≤ k
  | 0 => Nat.le_refl _
  | k + 1 => by
    have := mbF_le k
    rw [mbF]; split
    · rw [List.length_append]; simp; omega
    · omega
theorem mbF_pre (j : Nat) : ∀ d : Nat, mbF cl l j <+: mbF cl l (j + d)
  | 0 => List.prefix_refl _
  | d + 1 => (mbF_pre j d).trans (by
      show mbF cl l (j + d) <+: mbF cl l (j + d + 1)
      rw [mbF]; split
      · exact List.prefix_append _ _
      · exact List.prefix_refl _)
theorem mbF_mem : ∀ (k : Nat), ∀ s ∈ mbF cl l k, ∃ i, i < k ∧ s = rS l i
  | 0, s, h => by simp [mbF] at h
  | k + 1, s, h => by
    rw [mbF] at h
    split at h
    · rcases List.mem_append.1 h with h | h
      · obtain ⟨i, h1, h2⟩ := mbF_mem k s h; exact ⟨i, by omega, h2⟩
      · exact ⟨k, by omega, List.mem_singleton.1 h⟩
    · obtain ⟨i, h1, h2⟩ := mbF_mem k s h; exact ⟨i, by omega, h2⟩
theorem rgI_len (n : Nat) : (rgI n).length = n := by simp [rgI]
theorem rgI_succ (n : Nat) : rgI (n + 1) = rgI n ++ [(n : Int)] := by simp [rgI, List.range_succ]
theorem rgI_mem : x ∈ rgI n ↔ 0 ≤ x ∧ x < n := by
  simp only [rgI, List.mem_map, List.mem_range]
  constructor
  · rintro ⟨i, hi, rfl⟩; omega
  · rintro ⟨h1, h2⟩; exact ⟨x.toNat, by omega, by omega⟩
theorem rgI_get {j : Nat} (hj : j < n) : (rgI n).getD j 0 = (j : Int) := by
  simp [rgI, List.getD_eq_getElem?_getD, hj]
theorem ixI_rg (h : 0 ≤ x ∧ x < n) : ixI (rgI n) x = x := by
  have h1 := ixI_hit (xs := rgI n) (x := x) (k := x.toNat) (fun j hj => by rw [rgI_get (by omega)]; omega) (by rw [rgI_len]; omega) (by rw [rgI_get (by omega)]; omega)
  rw [h1]; omega
theorem Nm.put (h : Nm cl l) (hk : k < l.length) : putI (rgI (mbF cl l k).length) (cl.getD (rS l k).toNat 0) = rgI (mbF cl l (k + 1)).length := by
  have h1 := h.ord k hk
  by_cases e : cl.getD (rS l k).toNat 0 = ((mbF cl l k).length : Int)
  · rw [mbF_yes e, putI_new (by rw [rgI_mem]; omega), List.length_append, List.length_singleton, rgI_succ, e]
  · rw [mbF_no e, putI_has (by rw [rgI_mem]; omega)]
theorem Nm.new (h : Nm cl l) (hk : k < l.length) : (cl.getD (rS l k).toNat 0 ∉ rgI (mbF cl l k).length) ↔ cl.getD (rS l k).toNat 0 = ((mbF cl l k).length : Int) := by
  have h1 := h.ord k hk
  rw [rgI_mem]
  constructor
  · intro h2; omega
  · intro h2; omega
theorem Nm.lt (h : Nm cl l) {i : Nat} (hi : i < l.length) : cl.getD (rS l i).toNat 0 < ((mbF cl l l.length).length : Int) := by
  have h1 := h.ord i hi
  have h2 : (mbF cl l (i + 1)).length ≤ (mbF cl l l.length).length := by
    have := (mbF_pre (cl := cl) (l := l) (i + 1) (l.length - (i + 1))).length_le
    rwa [show i + 1 + (l.length - (i + 1)) = l.length by omega] at this
  by_cases e : cl.getD (rS l i).toNat 0 = ((mbF cl l i).length : Int)
  · rw [mbF_yes e, List.length_append, List.length_singleton] at h2; omega
  · have h3 := (mbF_pre (cl := cl) (l := l) i 1).length_le; omega
theorem Nm.mem (h : Nm cl l) {s : Int} (hs : s ∈ l.map (·.1)) : 0 ≤ cl.getD s.toNat 0 ∧ cl.getD s.toNat 0 < ((mbF cl l l.length).length : Int) := by
  obtain ⟨f, hf, rfl⟩ := List.mem_map.1 hs
  obtain ⟨i, hi, e⟩ := List.getElem_of_mem hf
  have h1 := h.lt hi; have h2 := h.ord i hi
  rw [rS_at hi, e] at h1 h2
  exact ⟨h2.1, h1⟩
theorem nm_next (h : FO a0 a1 l) : ∀ k : Nat, k ≤ l.length → (mbF (nxF a0 nx l cl l.length) l k).length = (ksF a0 nx l cl k).length
  | 0, _ => rfl
  | k + 1, hk => by
    have ih := nm_next h k (by omega)
    have hn := nxF_name (a0 := a0) (nx := nx) (cl := cl) h (i := k) (by omega)
    rw [ksF]
    by_cases e : ixK (ksF a0 nx l cl k) (keyF a0 nx l cl k l.length) < (ksF a0 nx l cl k).length
    · rw [putK_old e, mbF_no (by rw [hn]; omega), ih]
    · have := ixK_le (ksF a0 nx l cl k) (keyF a0 nx l cl k l.length)
      rw [putK_new e, mbF_yes (by rw [hn]; omega), List.length_append, List.length_append, ih]; rfl
theorem nm_of (h : FO a0 a1 l) (hl : 1 ≤ l.length) : Nm (clsF a0 en nx l) l := by
  rw [clsF_eq]
  obtain ⟨n, hn⟩ : ∃ n, l.length = n + 1 := ⟨l.length - 1, by omega⟩
  refine ⟨fun k hk => ?_⟩
  have e : clF a0 en nx l l.length = nxF a0 nx l (clF a0 en nx l n) l.length := by
    have : clF a0 en nx l (n + 1) = nxF a0 nx l (clF a0 en nx l n) l.length := rfl
    rw [← this, ← hn]
  rw [e, nm_next h k (by omega), nxF_name h hk]
  have := ixK_le (ksF a0 nx l (clF a0 en nx l n) k) (keyF a0 nx l (clF a0 en nx l n) k l.length)
  omega
end

/-! ### The smallest machine -/
def mpL (cl : List Int) (lf : List Int) : List Int := lf.map fun s => cl.getD s.toNat 0
def rwL (a0 : Int) (nx cl : List Int) (mb : List Int) (s : Int) : List Int := mb.map fun y => cl.getD (nx.getD (s * a0 + y).toNat 0).toNat 0
def nxL (a0 : Int) (nx cl : List Int) (mb xs : List Int) : List Int := xs.flatMap (rwL a0 nx cl mb)
def enL (en : List Bool) (mb : List Int) : List Bool := mb.map fun s => en.getD s.toNat false
section
variable {a0 a1 : Int} {lf nx cl mb : List Int} {en : List Bool} {l : List R4} {k n : Nat} {s : Int}
theorem take_snocI {xs : List Int} (hk : k < xs.length) : xs.take (k + 1) = xs.take k ++ [xs.getD k 0] := by
  rw [List.take_add_one, List.getD_eq_getElem?_getD, List.getElem?_eq_getElem hk]; simp
theorem mpL_put (hk : k < lf.length) : mpL cl (lf.take k) ++ [cl.getD (lf.getD k 0).toNat 0] = mpL cl (lf.take (k + 1)) := by
  rw [take_snocI hk, mpL, mpL, List.map_append]; rfl
theorem rwL_put (hk : k < mb.length) : rwL a0 nx cl (mb.take k) s ++ [cl.getD (nx.getD (s * a0 + mb.getD k 0).toNat 0).toNat 0] = rwL a0 nx cl (mb.take (k + 1)) s := by
  rw [take_snocI hk, rwL, rwL, List.map_append]; rfl
theorem nxL_put (hk : k < mb.length) : nxL a0 nx cl mb (mb.take k) ++ rwL a0 nx cl mb (mb.getD k 0) = nxL a0 nx cl mb (mb.take (k + 1)) := by
  rw [take_snocI hk, nxL, nxL, List.flatMap_append]; simp
theorem enL_put (hk : k < mb.length) : enL en (mb.take k) ++ [en.getD (mb.getD k 0).toNat false] = enL en (mb.take (k + 1)) := by
  rw [take_snocI hk, enL, enL, List.map_append]; rfl
theorem nxL_len (mb xs : List Int) : (nxL a0 nx cl mb xs).length = xs.length * mb.length := by
  induction xs with
  | nil => simp [nxL]
  | cons x r ih =>
    have : nxL a0 nx cl mb (x :: r) = rwL a0 nx cl mb x ++ nxL a0 nx cl mb r := rfl
    rw [this, List.length_append, ih, rwL, List.length_map, List.length_cons, Nat.succ_mul]; omega
end

section
variable {P : Program} {n : Nat} {σ : Fr} {w : World} {x y : Operand} {dst : Option Tmp} {ty : TypeId} {pos : String} {af : Array Edge} {gd : Option (Nat × Bool)} {t kt e : TypeId} {p : Addr} {ks : List (List Int)}
theorem PV.lookK (key : List Int) (KF : KeyF P kt (VKA (N := 33))) (ht : P.underlying t = some (.map kt e)) (hz : zvOf P e = some (.int .i64 0)) (hx : ev σ x = some (.map (some p.block))) (hy : ev σ y = some (VKA (padA key)))
    (hm : Mp w p (VKA (N := 33)) (fun z : Int => Value.int .i64 z) (mapK ks)) (hk : key.length ≤ 33) (hl : ∀ y ∈ ks, y.length = key.length) :
    PV P n σ w ⟨dst, .lookup t x y true, ty, pos, af, gd⟩ (.tuple #[.int .i64 (if ixK ks key < ks.length then (ixK ks key : Int) else 0), .bool (decide (ixK ks key < ks.length))]) := by
  have h := PV.lookOk (n := n) (dst := dst) (ty := ty) (pos := pos) (af := af) (gd := gd) KF ht hz hx hy hm
  rw [mapK_get hk hl] at h
  by_cases q : ixK ks key < ks.length
  · rw [if_pos q] at h; rw [if_pos q, decide_eq_true q]; exact h
  · rw [if_neg q] at h; rw [if_neg q, decide_eq_false q]; exact h
end
theorem mapK_none {ks : List (List Int)} {key : List Int} (hk : key.length ≤ 33) (hl : ∀ y ∈ ks, y.length = key.length) (h : ¬ ixK ks key < ks.length) : mpGet (mapK ks) (padA key) = none := by rw [mapK_get hk hl, if_neg h]
section
variable {a0 : Int} {nx cl : List Int} {l : List R4} {i j : Nat} {v : Int}
theorem nx_old (h : ixK (ksF a0 nx l cl i) (keyF a0 nx l cl i l.length) < (ksF a0 nx l cl i).length) (hv : v = if ixK (ksF a0 nx l cl i) (keyF a0 nx l cl i l.length) < (ksF a0 nx l cl i).length then (ixK (ksF a0 nx l cl i) (keyF a0 nx l cl i l.length) : Int) else 0) :
    (nxF a0 nx l cl i).set (rS l i).toNat v = nxF a0 nx l cl (i + 1) := by rw [hv, if_pos h, nxF]
theorem nx_new (h : ¬ ixK (ksF a0 nx l cl i) (keyF a0 nx l cl i l.length) < (ksF a0 nx l cl i).length) (hv : v = ((mapK (ksF a0 nx l cl i)).length : Int)) :
    (nxF a0 nx l cl i).set (rS l i).toNat v = nxF a0 nx l cl (i + 1) := by
  have := ixK_le (ksF a0 nx l cl i) (keyF a0 nx l cl i l.length)
  rw [hv, mapK_len, nxF, show ixK (ksF a0 nx l cl i) (keyF a0 nx l cl i l.length) = (ksF a0 nx l cl i).length by omega]
theorem ks_old (h : ixK (ksF a0 nx l cl i) (keyF a0 nx l cl i l.length) < (ksF a0 nx l cl i).length) : mapK (ksF a0 nx l cl i) = mapK (ksF a0 nx l cl (i + 1)) := by rw [ksF, putK_old h]
theorem ks_new (h : ¬ ixK (ksF a0 nx l cl i) (keyF a0 nx l cl i l.length) < (ksF a0 nx l cl i).length) : mapK (ksF a0 nx l cl i) ++ [(padA (keyF a0 nx l cl i l.length), ((mapK (ksF a0 nx l cl i)).length : Int))] = mapK (ksF a0 nx l cl (i + 1)) := by rw [ksF, putK_new h, mapK_put, mapK_len]
theorem key_put {u z : Int} {p q : Nat} (h : 1 + 2 * j + 2 ≤ 33) (hp : p = 1 + 2 * j) (hq : q = 2 + 2 * j) (hu : u = cl.getD (nx.getD (rS l i * a0 + rS l j).toNat 0).toNat 0) (hz : z = cl.getD (nx.getD (rS l j * a0 + rS l i).toNat 0).toNat 0) :
    ((padA (keyF a0 nx l cl i j)).1.set p u).set q z = (padA (keyF a0 nx l cl i (j + 1))).1 := by
  have hl := keyF_len (a0 := a0) (nx := nx) (l := l) (cl := cl) (i := i) j
  rw [padA_set (by omega) (by omega) (by omega), hu, hz]; rfl
end

section
variable {a0 a1 : Int} {lf nx cl : List Int} {en : List Bool} {l : List R4} {i j k x y : Nat} {u v : Int}
theorem key_app (hu : u = cl.getD (nx.getD (rS l i * a0 + rS l j).toNat 0).toNat 0) (hv : v = cl.getD (nx.getD (rS l j * a0 + rS l i).toNat 0).toNat 0) : (keyF a0 nx l cl i j ++ [u]) ++ [v] = keyF a0 nx l cl i (j + 1) := by
  rw [keyF, hu, hv, List.append_assoc]; rfl
theorem nx_set (hv : v = (ixK (ksF a0 nx l cl i) (keyF a0 nx l cl i l.length) : Int)) : (nxF a0 nx l cl i).set (rS l i).toNat v = nxF a0 nx l cl (i + 1) := by rw [hv, nxF]
theorem ks_oldS (h : ixK (ksF a0 nx l cl i) (keyF a0 nx l cl i l.length) < (ksF a0 nx l cl i).length) : ksF a0 nx l cl i = ksF a0 nx l cl (i + 1) := by rw [ksF, putK_old h]
theorem ks_newS (h : ¬ ixK (ksF a0 nx l cl i) (keyF a0 nx l cl i l.length) < (ksF a0 nx l cl i).length) : ksF a0 nx l cl i ++ [keyF a0 nx l cl i l.length] = ksF a0 nx l cl (i + 1) := by rw [ksF, putK_new h]
theorem mb_at (hx : x < (mbF cl l l.length).length) : ∃ i, i < l.length ∧ (mbF cl l l.length).getD x 0 = rS l i := mbF_mem _ _ (get_mem hx)
theorem mb_rng (h : FO a0 a1 l) (hx : x < (mbF cl l l.length).length) : 0 ≤ (mbF cl l l.length).getD x 0 ∧ (mbF cl l l.length).getD x 0 ≤ a0 - 1 := by
  obtain ⟨i, hi, e⟩ := mb_at hx
  rw [e]; exact h.st hi
theorem mb_join (t : TV a0 a1 lf nx) (hx : x < (mbF cl (foundL a0 nx lf) (foundL a0 nx lf).length).length) (hy : y < (mbF cl (foundL a0 nx lf) (foundL a0 nx lf).length).length) :
    nx.getD ((mbF cl (foundL a0 nx lf) (foundL a0 nx lf).length).getD x 0 * a0 + (mbF cl (foundL a0 nx lf) (foundL a0 nx lf).length).getD y 0).toNat 0 ∈ (foundL a0 nx lf).map (·.1) := by
  obtain ⟨i, hi, e1⟩ := mb_at hx
  obtain ⟨j, hj, e2⟩ := mb_at hy
  rw [e1, e2]; exact found_join t hi hj
theorem nxL_le {mb : List Int} (h : mb.length ≤ 16) (i : Nat) : (nxL a0 nx cl mb (mb.take i)).length ≤ 256 := by
  rw [nxL_len]
  have h1 : (mb.take i).length ≤ 16 := by rw [List.length_take]; omega
  exact Nat.mul_le_mul h1 h
theorem rwL_len (mb : List Int) (s : Int) : (rwL a0 nx cl mb s).length = mb.length := List.length_map _
theorem mpL_len (xs : List Int) : (mpL cl xs).length = xs.length := List.length_map _
theorem enL_len (xs : List Int) : (enL en xs).length = xs.length := List.length_map _
end

theorem ls_len {a0 a1 : Int} {lf nx cl : List Int} {c : Prop} (h : (1 ≤ a0 ∧ a0 ≤ 16) ∧ (1 ≤ a1 ∧ a1 ≤ 4) ∧ (lf.length : Int) = a1 ∧ (nx.length : Int) = a0 * a0 ∧ c ∧ allIn lf 0 (a0 - 1) = true ∧ allIn nx 0 (a0 - 1) = true) :
    (mbF cl (foundL a0 nx lf) (foundL a0 nx lf).length).length ≤ 16 := by
  have t : TV a0 a1 lf nx := ⟨h.1, h.2.1, h.2.2.1, h.2.2.2.1, h.2.2.2.2.2.1, h.2.2.2.2.2.2⟩
  have h1 := mbF_le (cl := cl) (l := foundL a0 nx lf) (foundL a0 nx lf).length
  have h2 := (found_ok t).len
  have h3 := t.s
  omega
theorem nxL_le2 {a0 : Int} {nx cl mb : List Int} (h : mb.length ≤ 16) : (nxL a0 nx cl mb mb).length ≤ 256 := by rw [nxL_len]; exact Nat.mul_le_mul h h
end Go.WX
