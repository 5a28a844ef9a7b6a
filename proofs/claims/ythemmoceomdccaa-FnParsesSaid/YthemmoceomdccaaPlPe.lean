/- Plain laws on the grammar of a plain machine; no program. No condition. -/
import Derived.Test.YthemmoceomdccaaPlPb
namespace Go.WX
open Go

/-- Where a machine is after a word. -/
def runL (l : Int) (nx : List Int) : List Int → Int → Int
  | [], a => a
  | x :: r, a => runL l nx r (nx.getD (a * l + x).toNat 0)
theorem runL_app (l : Int) (nx : List Int) : ∀ (u : List Int) (x a : Int), runL l nx (u ++ [x]) a = nx.getD (runL l nx u a * l + x).toNat 0
  | [], _, _ => rfl
  | y :: u, x, a => runL_app l nx u x _
section
variable {s l : Int} {nx : List Int} {en : List Bool} {wd : List Int}
theorem toG (h : plainB s l nx en = true) {i k : Int} (hi : 0 ≤ i ∧ i < s) (hk : 0 ≤ k ∧ k < l) : 0 ≤ nx.getD (i * l + k).toNat 0 ∧ nx.getD (i * l + k).toNat 0 < s := by
  have h1 := of_decide_eq_true h
  have b := plain_idx h1.2.1 h1.1 hi hk h1.2.2.1
  have h2 := h1.2.2.2.2
  unfold allIn at h2
  rw [List.all_eq_true] at h2
  have hq : (i * l + k).toNat < nx.length := by omega
  have h3 := h2 _ (List.getElem_mem hq)
  rw [List.getD_eq_getElem?_getD, List.getElem?_eq_getElem hq, Option.getD_some]
  simp only [decide_eq_true_eq] at h3
  omega
theorem runL_rng (h : plainB s l nx en = true) : ∀ (u : List Int) (a : Int), (∀ x ∈ u, 0 ≤ x ∧ x < l) → 0 ≤ a ∧ a < s → 0 ≤ runL l nx u a ∧ runL l nx u a < s
  | [], a, _, ha => ha
  | x :: u, a, hu, ha => runL_rng h u _ (fun y hy => hu y (List.mem_cons_of_mem _ hy)) (toG h ha (hu x List.mem_cons_self))
theorem allG_mem {r : R4} : r ∈ allG s l nx en ↔ (∃ i k : Nat, i < s.toNat ∧ k < l.toNat ∧ (r = ((i : Int), s + (k : Int), nx.getD ((i : Int) * l + (k : Int)).toNat 0, 0) ∨
    (en.getD (nx.getD ((i : Int) * l + (k : Int)).toNat 0).toNat false = true ∧ r = ((i : Int), (k : Int), -1, 0)))) ∨ ∃ k : Nat, k < l.toNat ∧ r = (s + (k : Int), (k : Int), -1, 0) := by
  unfold allG bodyG rowG tailG cellG
  simp only [List.mem_append, List.mem_flatMap, List.mem_range, List.mem_map]
  constructor
  · rintro (⟨i, hi, k, hk, h | h⟩ | ⟨k, hk, h⟩)
    · rw [List.mem_singleton] at h
      exact .inl ⟨i, k, hi, hk, .inl h⟩
    · split at h
      · rw [List.mem_singleton] at h
        rename_i he
        exact .inl ⟨i, k, hi, hk, .inr ⟨he, h⟩⟩
      · exact absurd h List.not_mem_nil
    · exact .inr ⟨k, hk, h.symm⟩
  · rintro (⟨i, k, hi, hk, h | ⟨he, h⟩⟩ | ⟨k, hk, h⟩)
    · exact .inl ⟨i, hi, k, hk, .inl (List.mem_singleton.2 h)⟩
    · exact .inl ⟨i, hi, k, hk, .inr (by rw [if_pos he]; exact List.mem_singleton.2 h)⟩
    · exact .inr ⟨k, hk, h.symm⟩
theorem cut_cons {i j : Nat} (h : i < j) (h2 : i < wd.length) : (wd.drop i).take (j - i) = wd.getD i 0 :: (wd.drop (i + 1)).take (j - (i + 1)) := by
  rw [List.drop_eq_getElem_cons h2, show j - i = (j - (i + 1)) + 1 by omega, List.take_succ_cons, List.getD_eq_getElem?_getD, List.getElem?_eq_getElem h2]; rfl
/-- What the grammar of a machine makes. -/
theorem madeG_out (h : plainB s l nx en = true) {i j : Nat} {a c : Int} (d : DC (allG s l nx en) wd i j a c) : c = 0 ∧ (0 ≤ a → a < s → en.getD (runL l nx ((wd.drop i).take (j - i)) a).toNat false = true) ∧ (s ≤ a → j = i + 1 ∧ wd.getD i 0 = a - s) := by
  have h1 := of_decide_eq_true h
  refine DC.byM (P := fun i j a c => c = 0 ∧ (0 ≤ a → a < s → en.getD (runL l nx ((wd.drop i).take (j - i)) a).toNat false = true) ∧ (s ≤ a → j = i + 1 ∧ wd.getD i 0 = a - s)) ?_ ?_ d
  · intro i r hr hi h2 h3
    rcases allG_mem.1 hr with ⟨q, k, hq, hk, rfl | ⟨he, rfl⟩⟩ | ⟨k, hk, rfl⟩
    · exfalso
      have := (toG h (i := q) (k := k) (by omega) (by omega)).1
      simp only at h2
      omega
    · simp only at h3 ⊢
      refine ⟨trivial, fun _ _ => ?_, fun h4 => by omega⟩
      rw [cut_cons (by omega) hi, Nat.sub_self, List.take_zero, h3]
      exact he
    · simp only at h3 ⊢
      exact ⟨trivial, fun h4 h5 => by omega, fun _ => ⟨trivial, by omega⟩⟩
  · intro i m j r c1 c2 hr h2 e1 e2 d1 d2
    rcases allG_mem.1 hr with ⟨q, k, hq, hk, rfl | ⟨he, rfl⟩⟩ | ⟨k, hk, rfl⟩
    · simp only at d1 d2 e1 e2 ⊢
      have ht := toG h (i := q) (k := k) (by omega) (by omega)
      obtain ⟨rfl, _, k3⟩ := d1
      obtain ⟨rfl, k4, _⟩ := d2
      obtain ⟨rfl, k5⟩ := k3 (by omega)
      have l1 := e1.lt; have l2 := e2.lt
      refine ⟨rfl, fun _ _ => ?_, fun h4 => by omega⟩
      rw [cut_cons (by omega) (by omega), k5]
      show en.getD (runL l nx _ (nx.getD ((q : Int) * l + (s + (k : Int) - s)).toNat 0)).toNat false = true
      rw [show s + (k : Int) - s = (k : Int) by omega]
      exact k4 ht.1 ht.2
    · exact absurd h2 (by show ¬ (0 : Int) ≤ -1; decide)
    · exact absurd h2 (by show ¬ (0 : Int) ≤ -1; decide)
theorem madeG_in (h : plainB s l nx en = true) : ∀ (m i : Nat) (a : Int), 0 ≤ a ∧ a < s → i + (m + 1) ≤ wd.length → (∀ q, i ≤ q → q < i + (m + 1) → 0 ≤ wd.getD q 0 ∧ wd.getD q 0 < l) →
    en.getD (runL l nx ((wd.drop i).take (m + 1)) a).toNat false = true → DC (allG s l nx en) wd i (i + (m + 1)) a 0
  | 0, i, a, ha, hi, hw, he => by
    have hx := hw i (Nat.le_refl _) (by omega)
    have e := cut_cons (wd := wd) (i := i) (j := i + 1) (by omega) (by omega)
    rw [show i + 1 - i = 0 + 1 by omega, Nat.sub_self, List.take_zero] at e
    rw [e] at he
    change en.getD (nx.getD (a * l + wd.getD i 0).toNat 0).toNat false = true at he
    have hm : ((a, wd.getD i 0, -1, 0) : R4) ∈ allG s l nx en := allG_mem.2 (.inl ⟨a.toNat, (wd.getD i 0).toNat, by omega, by omega, .inr ⟨by
      rw [Int.toNat_of_nonneg ha.1, Int.toNat_of_nonneg hx.1]; exact he, by rw [Int.toNat_of_nonneg ha.1, Int.toNat_of_nonneg hx.1]⟩⟩)
    exact DC.leafM hm (by omega) (by show (-1 : Int) < 0; decide) rfl
  | m + 1, i, a, ha, hi, hw, he => by
    have hx := hw i (Nat.le_refl _) (by omega)
    have e := cut_cons (wd := wd) (i := i) (j := i + (m + 1 + 1)) (by omega) (by omega)
    rw [show i + (m + 1 + 1) - i = m + 1 + 1 by omega, show i + (m + 1 + 1) - (i + 1) = m + 1 by omega] at e
    rw [e] at he
    change en.getD (runL l nx ((wd.drop (i + 1)).take (m + 1)) (nx.getD (a * l + wd.getD i 0).toNat 0)).toNat false = true at he
    have ht := toG h ha hx
    have d2 := madeG_in h m (i + 1) _ ht (by omega) (fun q h1 h2 => hw q (by omega) (by omega)) he
    have hs := (of_decide_eq_true h).1
    have d1 : DC (allG s l nx en) wd i (i + 1) (s + wd.getD i 0) 0 :=
      DC.leafM (r := (s + wd.getD i 0, wd.getD i 0, -1, 0)) (allG_mem.2 (.inr ⟨(wd.getD i 0).toNat, by omega, by rw [Int.toNat_of_nonneg hx.1]⟩)) (by omega) (by show (-1 : Int) < 0; decide) rfl
    have hm : ((a, s + wd.getD i 0, nx.getD (a * l + wd.getD i 0).toNat 0, 0) : R4) ∈ allG s l nx en := allG_mem.2 (.inl ⟨a.toNat, (wd.getD i 0).toNat, by omega, by omega, .inl (by
      rw [Int.toNat_of_nonneg ha.1, Int.toNat_of_nonneg hx.1])⟩)
    have := DC.nodeM hm (by show 0 ≤ nx.getD (a * l + wd.getD i 0).toNat 0; exact ht.1) d1 d2
    rw [show i + 1 + (m + 1) = i + (m + 1 + 1) by omega] at this
    exact this
/-- The grammar of a machine makes the name 0 of what the machine reads. -/
theorem madeG (h : plainB s l nx en = true) (hw : allIn wd 0 (l - 1) = true) (h1 : 1 ≤ wd.length) : (∃ c, DC (allG s l nx en) wd 0 wd.length 0 c) ↔ en.getD (runL l nx wd 0).toNat false = true := by
  have hs := (of_decide_eq_true h).1
  constructor
  · rintro ⟨c, d⟩
    have := (madeG_out h d).2.1 (by omega) (by omega)
    rwa [List.drop_zero, Nat.sub_zero, List.take_length] at this
  · intro he
    obtain ⟨m, hm⟩ : ∃ m, wd.length = m + 1 := ⟨wd.length - 1, by omega⟩
    refine ⟨0, ?_⟩
    have := madeG_in (wd := wd) h m 0 0 (by omega) (by omega) (fun q _ h2 => by
      unfold allIn at hw
      rw [List.all_eq_true] at hw
      have hq : q < wd.length := by omega
      have h3 := hw _ (List.getElem_mem hq)
      rw [List.getD_eq_getElem?_getD, List.getElem?_eq_getElem hq, Option.getD_some]
      simp only [decide_eq_true_eq] at h3
      omega) (by rw [List.drop_zero, ← hm, List.take_length]; exact he)
    rwa [Nat.zero_add, ← hm] at this
theorem leastC_made {n2 l2 : Int} (g : gramV n2 l2 (allG s l nx en)) (h : plainB s l nx en = true) (hw : allIn wd 0 (l - 1) = true) (h1 : 1 ≤ wd.length) : leastC (allG s l nx en) wd 0 wd.length 0 = 0 ↔ en.getD (runL l nx wd 0).toNat false = true := by
  rw [← madeG h hw h1]
  constructor
  · intro e
    exact (leastC_iff g).1 (by omega)
  · intro e
    exact (madeG_out h (leastC_spec g e).1).1
/-- The grammar of a small machine is valid. -/
theorem madeG_v (h : plainB s l nx en = true) (h8 : s ≤ 4) (h2 : l ≤ 2) : gramV (s + l) l (allG s l nx en) := by
  have h1 := of_decide_eq_true h
  refine ⟨by omega, h1.2.1, ?_, fun k hk => ?_⟩
  · have hb : ∀ q, ((bodyG s l nx en q).length : Int) ≤ 4 * (q : Int) := fun q => by
      induction q with
      | zero => simp [bodyG]
      | succ q ih =>
        rw [← bodyG_succ (s := s) (l := l) (nx := nx) (en := en) (i := q) rfl, List.length_append]
        have := rowG_len (s := s) (l := l) (nx := nx) (en := en) (i := q) l.toNat
        omega
    have := hb s.toNat
    unfold allG
    rw [List.length_append, tailG_len]
    omega
  · have hr : rl (allG s l nx en) k ∈ allG s l nx en := rl_mem hk
    change okR (s + l) l (rl (allG s l nx en) k)
    unfold okR
    rcases allG_mem.1 hr with ⟨q, m, hq, hm, e | ⟨he, e⟩⟩ | ⟨m, hm, e⟩
    · have ht := toG h (i := q) (k := m) (by omega) (by omega)
      rw [e]; simp only; omega
    · rw [e]; simp only; omega
    · rw [e]; simp only; omega
end
end Go.WX
