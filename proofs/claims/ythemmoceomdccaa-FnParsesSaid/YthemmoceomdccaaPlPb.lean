/- Plain laws on parses of one of two grammars; no program. No condition. -/
import Derived.Test.YthemmoceomdccaaPlPa
import Derived.Test.YthemmoceomdccaaPlE
namespace Go.WX
open Go

section
variable {rs : List R4} {wd : List Int} {nm l : Int} {i j : Nat} {a c : Int}
theorem rl_mem {k : Nat} (h : k < rs.length) : rl rs k ∈ rs := by
  unfold rl; rw [List.getD_eq_getElem?_getD, List.getElem?_eq_getElem h]; exact List.getElem_mem h
theorem mem_rl {r : R4} (h : r ∈ rs) : ∃ k, k < rs.length ∧ rl rs k = r := by
  obtain ⟨k, hk, e⟩ := List.mem_iff_getElem.1 h
  exact ⟨k, hk, by unfold rl; rw [List.getD_eq_getElem?_getD, List.getElem?_eq_getElem hk]; exact e⟩
theorem DC.leafM {r : R4} (h : r ∈ rs) (hi : i < wd.length) (h1 : r.2.2.1 < 0) (h2 : wd.getD i 0 = r.2.1) : DC rs wd i (i + 1) r.1 r.2.2.2 := by
  obtain ⟨k, hk, rfl⟩ := mem_rl h
  exact .leaf i k hk hi h1 h2
theorem DC.nodeM {r : R4} {m : Nat} {c1 c2 : Int} (h : r ∈ rs) (h1 : 0 ≤ r.2.2.1) (d1 : DC rs wd i m r.2.1 c1) (d2 : DC rs wd m j r.2.2.1 c2) : DC rs wd i j r.1 (c1 + c2 + r.2.2.2) := by
  obtain ⟨k, hk, rfl⟩ := mem_rl h
  exact .node i m j k c1 c2 hk h1 d1 d2
theorem DC.byM {P : Nat → Nat → Int → Int → Prop} (hl : ∀ (i : Nat) (r : R4), r ∈ rs → i < wd.length → r.2.2.1 < 0 → wd.getD i 0 = r.2.1 → P i (i + 1) r.1 r.2.2.2)
    (hn : ∀ (i m j : Nat) (r : R4) (c1 c2 : Int), r ∈ rs → 0 ≤ r.2.2.1 → DC rs wd i m r.2.1 c1 → DC rs wd m j r.2.2.1 c2 → P i m r.2.1 c1 → P m j r.2.2.1 c2 → P i j r.1 (c1 + c2 + r.2.2.2)) (h : DC rs wd i j a c) : P i j a c := by
  induction h with
  | leaf i k h1 h2 h3 h4 => exact hl i _ (rl_mem h1) h2 h3 h4
  | node i m j k c1 c2 h1 h2 h3 h4 i1 i2 => exact hn i m j _ c1 c2 (rl_mem h1) h2 h3 h4 i1 i2
/-- The last rule of a tree. -/
theorem DC.top (h : DC rs wd i j a c) : ∃ r ∈ rs, r.1 = a ∧ ((r.2.2.1 < 0 ∧ i < wd.length ∧ j = i + 1 ∧ wd.getD i 0 = r.2.1 ∧ c = r.2.2.2) ∨ (0 ≤ r.2.2.1 ∧ ∃ m c1 c2, DC rs wd i m r.2.1 c1 ∧ DC rs wd m j r.2.2.1 c2 ∧ c = c1 + c2 + r.2.2.2)) := by
  cases h with
  | leaf _ k h1 h2 h3 h4 => exact ⟨_, rl_mem h1, rfl, .inl ⟨h3, h2, rfl, h4, rfl⟩⟩
  | node _ m _ k c1 c2 h1 h2 h3 h4 => exact ⟨_, rl_mem h1, rfl, .inr ⟨h2, m, c1, c2, h3, h4, rfl⟩⟩
/-- Rules that are there with later names make the same. -/
theorem DC.later {rs2 : List R4} {q : Int} (hq : 0 ≤ q) (hm : ∀ r ∈ rs, laterR q r ∈ rs2) (h : DC rs wd i j a c) : DC rs2 wd i j (a + q) c := by
  refine DC.byM (P := fun i j a c => DC rs2 wd i j (a + q) c) ?_ ?_ h
  · intro i r hr hi h1 h2
    have := hm r hr
    rw [laterR_no (by omega)] at this
    exact DC.leafM this hi (by show (-1 : Int) < 0; decide) h2
  · intro i m j r c1 c2 hr h1 _ _ d1 d2
    have := hm r hr
    rw [laterR_yes h1] at this
    exact DC.nodeM this (by show 0 ≤ r.2.2.1 + q; omega) d1 d2
end
section
variable {ra rb : List R4} {wd : List Int} {n m l l2 : Int} {i j : Nat} {a c : Int}
theorem addL_memT {q : Int} {r : R4} {rs : List R4} : r ∈ addL q true rs ↔ ∃ x ∈ rs, x.1 = 0 ∧ r = setR0 0 (laterR q x) := by
  unfold addL addR
  rw [List.mem_flatMap]
  constructor
  · rintro ⟨x, hx, h⟩
    rw [if_pos rfl] at h
    by_cases h0 : x.1 = 0
    · rw [if_pos h0, List.mem_singleton] at h; exact ⟨x, hx, h0, h⟩
    · rw [if_neg h0] at h; exact absurd h (List.not_mem_nil)
  · rintro ⟨x, hx, h0, rfl⟩
    exact ⟨x, hx, by rw [if_pos rfl, if_pos h0]; exact List.mem_singleton.2 rfl⟩
theorem addL_memF {q : Int} {r : R4} {rs : List R4} : r ∈ addL q false rs ↔ ∃ x ∈ rs, r = laterR q x := by
  rw [addL_false, mapL, List.mem_map]
  exact ⟨fun ⟨x, h1, h2⟩ => ⟨x, h1, h2.symm⟩, fun ⟨x, h1, h2⟩ => ⟨x, h1, h2.symm⟩⟩
theorem eithL_mem {r : R4} : r ∈ eithL n ra rb ↔ (∃ x ∈ ra, x.1 = 0 ∧ r = setR0 0 (laterR 1 x)) ∨ (∃ x ∈ rb, x.1 = 0 ∧ r = setR0 0 (laterR (1 + n) x)) ∨ (∃ x ∈ ra, r = laterR 1 x) ∨ (∃ x ∈ rb, r = laterR (1 + n) x) := by
  unfold eithL
  rw [List.mem_append, List.mem_append, List.mem_append, addL_memT, addL_memT, addL_memF, addL_memF, or_assoc, or_assoc]
theorem setR0_yes {q : Int} {r : R4} (h : 0 ≤ r.2.2.1) : setR0 0 (laterR q r) = (0, r.2.1 + q, r.2.2.1 + q, r.2.2.2) := by rw [laterR_yes h]
theorem setR0_no {q : Int} {r : R4} (h : ¬ 0 ≤ r.2.2.1) : setR0 0 (laterR q r) = (0, r.2.1, -1, r.2.2.2) := by rw [laterR_no h]
theorem eith_in {q : Int} (hq : 0 ≤ q) {rs rs2 : List R4} (h1 : ∀ x ∈ rs, laterR q x ∈ rs2) (h2 : ∀ x ∈ rs, x.1 = 0 → setR0 0 (laterR q x) ∈ rs2) (h : DC rs wd i j 0 c) : DC rs2 wd i j 0 c := by
  obtain ⟨r, hr, h0, hc⟩ := h.top
  have hm := h2 r hr h0
  rcases hc with ⟨k1, k2, rfl, k4, rfl⟩ | ⟨k1, m, c1, c2, d1, d2, rfl⟩
  · rw [setR0_no (by omega)] at hm
    exact DC.leafM hm k2 (by show (-1 : Int) < 0; decide) k4
  · rw [setR0_yes k1] at hm
    exact DC.nodeM hm (by show 0 ≤ r.2.2.1 + q; omega) (d1.later hq h1) (d2.later hq h1)
theorem gram_two (g : gramV n l ra) {r : R4} (hr : r ∈ ra) : (0 ≤ r.1 ∧ r.1 < n) ∧ (0 ≤ r.2.2.1 → (0 ≤ r.2.1 ∧ r.2.1 < n) ∧ r.2.2.1 < n) := by
  have h := gram_mem g r hr
  unfold okR at h
  omega
theorem eith_out (ga : gramV n l ra) (gb : gramV m l2 rb) (h : DC (eithL n ra rb) wd i j a c) : (1 ≤ a → a < 1 + n → DC ra wd i j (a - 1) c) ∧ (1 + n ≤ a → DC rb wd i j (a - (1 + n)) c) ∧ (a = 0 → DC ra wd i j 0 c ∨ DC rb wd i j 0 c) := by
  have hn := ga.1
  refine DC.byM (P := fun i j a c => (1 ≤ a → a < 1 + n → DC ra wd i j (a - 1) c) ∧ (1 + n ≤ a → DC rb wd i j (a - (1 + n)) c) ∧ (a = 0 → DC ra wd i j 0 c ∨ DC rb wd i j 0 c)) ?_ ?_ h
  · intro i r hr hi h1 h2
    rcases eithL_mem.1 hr with ⟨x, hx, h0, rfl⟩ | ⟨x, hx, h0, rfl⟩ | ⟨x, hx, rfl⟩ | ⟨x, hx, rfl⟩
    · have hs : ¬ 0 ≤ x.2.2.1 := fun hs => by rw [setR0_yes hs] at h1; simp only at h1; omega
      rw [setR0_no hs] at h2 ⊢
      have d := DC.leafM hx hi (by omega) h2
      rw [h0] at d
      exact ⟨fun h3 => absurd h3 (show ¬ (1 : Int) ≤ 0 by decide), fun h3 => absurd h3 (show ¬ 1 + n ≤ (0 : Int) by omega), fun _ => .inl d⟩
    · have hs : ¬ 0 ≤ x.2.2.1 := fun hs => by rw [setR0_yes hs] at h1; simp only at h1; omega
      rw [setR0_no hs] at h2 ⊢
      have d := DC.leafM hx hi (by omega) h2
      rw [h0] at d
      exact ⟨fun h3 => absurd h3 (show ¬ (1 : Int) ≤ 0 by decide), fun h3 => absurd h3 (show ¬ 1 + n ≤ (0 : Int) by omega), fun _ => .inr d⟩
    · have b := gram_two ga hx
      have hs : ¬ 0 ≤ x.2.2.1 := fun hs => by rw [laterR_yes hs] at h1; simp only at h1; omega
      rw [laterR_no hs] at h2 ⊢
      have d := DC.leafM hx hi (by omega) h2
      simp only
      refine ⟨fun _ _ => ?_, fun h3 => by omega, fun h3 => by omega⟩
      rw [show x.1 + 1 - 1 = x.1 by omega]; exact d
    · have b := gram_two gb hx
      have hs : ¬ 0 ≤ x.2.2.1 := fun hs => by rw [laterR_yes hs] at h1; simp only at h1; omega
      rw [laterR_no hs] at h2 ⊢
      have d := DC.leafM hx hi (by omega) h2
      simp only
      refine ⟨fun _ _ => by omega, fun _ => ?_, fun h3 => by omega⟩
      rw [show x.1 + (1 + n) - (1 + n) = x.1 by omega]; exact d
  · intro i k j r c1 c2 hr h1 _ _ d1 d2
    rcases eithL_mem.1 hr with ⟨x, hx, h0, rfl⟩ | ⟨x, hx, h0, rfl⟩ | ⟨x, hx, rfl⟩ | ⟨x, hx, rfl⟩
    · have b := gram_two ga hx
      have hs : 0 ≤ x.2.2.1 := Classical.byContradiction fun hs => by rw [setR0_no hs] at h1; exact absurd h1 (show ¬ (0 : Int) ≤ -1 by decide)
      rw [setR0_yes hs] at d1 d2 ⊢
      have e1 := d1.1 (by simp only; omega) (by simp only; omega)
      have e2 := d2.1 (by simp only; omega) (by simp only; omega)
      simp only at e1 e2
      rw [show x.2.1 + 1 - 1 = x.2.1 by omega] at e1
      rw [show x.2.2.1 + 1 - 1 = x.2.2.1 by omega] at e2
      have d := DC.nodeM hx hs e1 e2
      rw [h0] at d
      exact ⟨fun h3 => absurd h3 (show ¬ (1 : Int) ≤ 0 by decide), fun h3 => absurd h3 (show ¬ 1 + n ≤ (0 : Int) by omega), fun _ => .inl d⟩
    · have b := gram_two gb hx
      have hs : 0 ≤ x.2.2.1 := Classical.byContradiction fun hs => by rw [setR0_no hs] at h1; exact absurd h1 (show ¬ (0 : Int) ≤ -1 by decide)
      rw [setR0_yes hs] at d1 d2 ⊢
      have e1 := d1.2.1 (by simp only; omega)
      have e2 := d2.2.1 (by simp only; omega)
      simp only at e1 e2
      rw [show x.2.1 + (1 + n) - (1 + n) = x.2.1 by omega] at e1
      rw [show x.2.2.1 + (1 + n) - (1 + n) = x.2.2.1 by omega] at e2
      have d := DC.nodeM hx hs e1 e2
      rw [h0] at d
      exact ⟨fun h3 => absurd h3 (show ¬ (1 : Int) ≤ 0 by decide), fun h3 => absurd h3 (show ¬ 1 + n ≤ (0 : Int) by omega), fun _ => .inr d⟩
    · have b := gram_two ga hx
      have hs : 0 ≤ x.2.2.1 := Classical.byContradiction fun hs => by rw [laterR_no hs] at h1; exact absurd h1 (show ¬ (0 : Int) ≤ -1 by decide)
      rw [laterR_yes hs] at d1 d2 ⊢
      have e1 := d1.1 (by simp only; omega) (by simp only; omega)
      have e2 := d2.1 (by simp only; omega) (by simp only; omega)
      simp only at e1 e2 ⊢
      rw [show x.2.1 + 1 - 1 = x.2.1 by omega] at e1
      rw [show x.2.2.1 + 1 - 1 = x.2.2.1 by omega] at e2
      have d := DC.nodeM hx hs e1 e2
      refine ⟨fun _ _ => ?_, fun h3 => by omega, fun h3 => by omega⟩
      rw [show x.1 + 1 - 1 = x.1 by omega]; exact d
    · have b := gram_two gb hx
      have hs : 0 ≤ x.2.2.1 := Classical.byContradiction fun hs => by rw [laterR_no hs] at h1; exact absurd h1 (show ¬ (0 : Int) ≤ -1 by decide)
      rw [laterR_yes hs] at d1 d2 ⊢
      have e1 := d1.2.1 (by simp only; omega)
      have e2 := d2.2.1 (by simp only; omega)
      simp only at e1 e2 ⊢
      rw [show x.2.1 + (1 + n) - (1 + n) = x.2.1 by omega] at e1
      rw [show x.2.2.1 + (1 + n) - (1 + n) = x.2.2.1 by omega] at e2
      have d := DC.nodeM hx hs e1 e2
      refine ⟨fun _ _ => by omega, fun _ => ?_, fun h3 => by omega⟩
      rw [show x.1 + (1 + n) - (1 + n) = x.1 by omega]; exact d
theorem either_iff (ga : gramV n l ra) (gb : gramV m l2 rb) : DC (eithL n ra rb) wd i j 0 c ↔ DC ra wd i j 0 c ∨ DC rb wd i j 0 c := by
  have hn := ga.1
  constructor
  · exact fun h => (eith_out ga gb h).2.2 rfl
  · rintro (h | h)
    · exact eith_in (by decide) (fun x hx => eithL_mem.2 (.inr (.inr (.inl ⟨x, hx, rfl⟩)))) (fun x hx h0 => eithL_mem.2 (.inl ⟨x, hx, h0, rfl⟩)) h
    · exact eith_in (q := 1 + n) (by omega) (fun x hx => eithL_mem.2 (.inr (.inr (.inr ⟨x, hx, rfl⟩)))) (fun x hx h0 => eithL_mem.2 (.inr (.inl ⟨x, hx, h0, rfl⟩))) h
/-- The less of two costs, -1 being none. -/
def lessR (a b : Int) : Int := if a < 0 then b else if b < 0 then a else min a b
theorem leastC_either (ga : gramV n l ra) (gb : gramV m l2 rb) : leastC (eithL n ra rb) wd i j 0 = lessR (leastC ra wd i j 0) (leastC rb wd i j 0) := by
  unfold lessR
  by_cases h1 : ∃ c, DC ra wd i j 0 c
  · have s1 := leastC_spec ga h1
    rw [if_neg (by omega)]
    by_cases h2 : ∃ c, DC rb wd i j 0 c
    · have s2 := leastC_spec gb h2
      rw [if_neg (by omega)]
      refine (leastC_of ?_ fun c' hc => ?_).symm
      · rcases Int.le_total (leastC ra wd i j 0) (leastC rb wd i j 0) with h | h
        · rw [Int.min_eq_left h]; exact (either_iff ga gb).2 (.inl s1.1)
        · rw [Int.min_eq_right h]; exact (either_iff ga gb).2 (.inr s2.1)
      · rcases (either_iff ga gb).1 hc with hc | hc
        · have := s1.2.1 _ hc; omega
        · have := s2.2.1 _ hc; omega
    · rw [if_pos (by rw [← leastC_no h2]; decide)]
      refine (leastC_of ((either_iff ga gb).2 (.inl s1.1)) fun c' hc => ?_).symm
      rcases (either_iff ga gb).1 hc with hc | hc
      · exact s1.2.1 _ hc
      · exact absurd ⟨_, hc⟩ h2
  · rw [if_pos (by rw [← leastC_no h1]; decide)]
    refine (leastC_congr gb fun c' => ?_)
    rw [either_iff ga gb]
    exact ⟨.inr, fun h => h.resolve_left fun h => h1 ⟨_, h⟩⟩
end
end Go.WX
