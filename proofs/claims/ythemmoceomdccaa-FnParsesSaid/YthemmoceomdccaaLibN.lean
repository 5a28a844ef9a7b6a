/- Lists of lists that lie in blocks of their own. No condition. -/
import Derived.Test.YthemmoceomdccaaLibM
import Derived.Test.YthemmoceomdccaaLibI
namespace Go.WX
open Go

@[reducible] def VV (v : Value) : Value := v
/-- The slice v reads as xss, whatever is done to blocks other than those of bl. -/
def NL (w : World) (bl : List Nat) (v : Value) (xss : List (List Int)) : Prop :=
  (∀ g ∈ bl, g < w.heap.size) ∧ ∀ w' : World, (∀ g ∈ bl, w'.heap[g]? = w.heap[g]?) → Rd (ESl EI) w' v xss
def DN (bl : List Nat) (og : Option Nat) : Prop := ∀ g, og = some g → g ∉ bl
def LoN (b : World) (bl : List Nat) : Prop := ∀ g ∈ bl, b.heap.size ≤ g

section
variable {b w w' : World} {bl : List Nat} {v : Value} {xss : List (List Int)} {og : Option Nat}
theorem NL.rd (h : NL w bl v xss) : Rd (ESl EI) w v xss := h.2 w (fun _ _ => rfl)
theorem NL.updD (h : NL w bl v xss) (u : Upd og w w') (d : DN bl og) : NL w' bl v xss :=
  ⟨fun g hg => Nat.lt_of_lt_of_le (h.1 g hg) u.size, fun w2 h2 => h.2 w2 (fun g hg => (h2 g hg).trans (u.block g (h.1 g hg) (fun e => d g e.symm hg)))⟩
theorem NL.up (h : NL w bl v xss) (u : Ext w w') : NL w' bl v xss := h.updD u (fun g hg => by cases hg)
theorem NL.loop {bad : List (Option Nat)} (h : NL w bl v xss) (u : UpdL bad w w') (d : AllO (DN bl) bad) : NL w' bl v xss :=
  ⟨fun g hg => Nat.lt_of_lt_of_le (h.1 g hg) u.size, fun w2 h2 => h.2 w2 (fun g hg => (h2 g hg).trans (u.block g (h.1 g hg) (fun hm => d.of _ hm g rfl hg)))⟩
theorem LoN.up (h : LoN w bl) (e : Ext b w) : LoN b bl := fun g hg => Nat.le_trans e.size (h g hg)
theorem DN.lo (h : ∀ k, og = some k → k < w.heap.size) (hq : LoN w bl) : DN bl og := fun g hg hm => by
  have := h g hg; have := hq g hm; omega
theorem DN.new {g : Nat} (h : NL w bl v xss) (hg : w.heap.size ≤ g) : DN bl (some g) := fun k hk hm => by
  have := h.1 k hm; simp at hk; omega
theorem DN.fresh (h : NL w bl v xss) (hg : Lo w og) : DN bl og := fun k hk hm => by
  have := h.1 k hm; have := hg k hk; omega
theorem nlE {xs ys : List (List Int)} (h : NL w bl v xs) (e : xs = ys) : NL w bl v ys := e ▸ h
end

/-- The inner lists, each in a block that is newer than c. -/
def InL (c w : World) (vs : List Value) (xss : List (List Int)) : Prop :=
  vs.length = xss.length ∧ ∀ j, j < vs.length → ∃ og, Osl VI w og (vs.getD j (.slice none 0 0)) (xss.getD j []) ∧ Lo c og
theorem InL.zero (c w : World) : InL c w [] [] := ⟨rfl, fun j h => by simp at h⟩
theorem InL.up {c w w' : World} {vs : List Value} {xss : List (List Int)} (h : InL c w vs xss) (e : Ext w w') : InL c w' vs xss :=
  ⟨h.1, fun j hj => by obtain ⟨og, h1, h2⟩ := h.2 j hj; exact ⟨og, h1.up e, h2⟩⟩
theorem InL.updD {c w w' : World} {vs : List Value} {xss : List (List Int)} {o : Option Nat} (h : InL c w vs xss) (u : Upd o w w') (hlt : ∀ g, o = some g → g < c.heap.size) : InL c w' vs xss :=
  ⟨h.1, fun j hj => by
    obtain ⟨og, h1, h2⟩ := h.2 j hj
    exact ⟨og, h1.updD u (fun g hg he => by have := h2 g hg; have := hlt g he; omega), h2⟩⟩
theorem InL.put {c w : World} {vs : List Value} {xss : List (List Int)} {v : Value} {xs : List Int} {og : Option Nat} (h : InL c w vs xss) (ho : Osl VI w og v xs) (hl : Lo c og) : InL c w (vs ++ [v]) (xss ++ [xs]) :=
  ⟨by simp [h.1], fun j hj => by
    by_cases e : j < vs.length
    · obtain ⟨o, h1, h2⟩ := h.2 j e
      refine ⟨o, ?_, h2⟩
      have e2 : j < xss.length := by rw [← h.1]; exact e
      simpa [List.getD_eq_getElem?_getD, List.getElem?_append_left e, List.getElem?_append_left e2] using h1
    · have : j = vs.length := by simp at hj; omega
      subst this
      refine ⟨og, ?_, hl⟩
      have e2 := h.1
      simp only [List.getD_eq_getElem?_getD]
      rw [List.getElem?_append_right (Nat.le_refl _), e2, List.getElem?_append_right (Nat.le_refl _)]
      simpa using ho⟩
theorem Osl.same {α : Type} {f : α → Value} {w w' : World} {og : Option Nat} {v : Value} {xs : List α} (h : Osl f w og v xs) (e : ∀ g, og = some g → w'.heap[g]? = w.heap[g]?) : Osl f w' og v xs := by
  rcases h with h | ⟨g, l, cap, cur, ee, h1, h2, h3, hr⟩
  · exact .inl h
  · exact .inr ⟨g, l, cap, cur, ee, h1, h2, by rw [e g h1]; exact h3, hr⟩
theorem rdSl {w : World} {og : Option Nat} {v : Value} {vs : List Value} {xss : List (List Int)} (h : Osl VV w og v vs) (hl : vs.length = xss.length) (hi : ∀ j, j < vs.length → Rd EI w (vs.getD j (.slice none 0 0)) (xss.getD j [])) : Rd (ESl EI) w v xss := by
  obtain ⟨h1, h2⟩ := h.rd
  refine ⟨by omega, ?_⟩
  rcases h2 with ⟨rfl, rfl⟩ | ⟨a, cap, h3, h4, h5⟩
  · left
    refine ⟨rfl, ?_⟩
    have : xss.length = 0 := by simpa using hl.symm
    exact List.eq_nil_of_length_eq_zero this
  · refine .inr ⟨a, cap, by rw [h3, hl], by omega, fun i x hx => ?_⟩
    have hi2 : i < xss.length := by
      rcases Nat.lt_or_ge i xss.length with q | q
      · exact q
      · rw [List.getElem?_eq_none q] at hx; cases hx
    obtain ⟨k1, cs, k2, k3⟩ := h5 i (vs.getD i (.slice none 0 0)) (by simp [List.getD_eq_getElem?_getD, hl, hi2])
    refine ⟨k1, cs, ⟨vs.getD i (.slice none 0 0), k2, ?_⟩, k3⟩
    have := hi i (by omega)
    have e : xss.getD i [] = x := by simp [List.getD_eq_getElem?_getD, hx]
    rw [e] at this; exact this
theorem NL.of {c w : World} {og : Option Nat} {v : Value} {vs : List Value} {xss : List (List Int)} (h : Osl VV w og v vs) (hi : InL c w vs xss) {b : World} (hb : Lo b og) (hc : b.heap.size ≤ c.heap.size) : ∃ bl, NL w bl v xss ∧ LoN b bl := by
  have key : ∀ n, n ≤ vs.length → ∃ bl : List Nat, (∀ g ∈ bl, g < w.heap.size ∧ b.heap.size ≤ g) ∧ ∀ w' : World, (∀ g ∈ bl, w'.heap[g]? = w.heap[g]?) → ∀ j, j < n → Rd EI w' (vs.getD j (.slice none 0 0)) (xss.getD j []) := fun n => by
    induction n with
    | zero => exact fun _ => ⟨[], fun g hg => (by cases hg), fun w' _ j hj => (by omega)⟩
    | succ n ih =>
      intro hn
      obtain ⟨bl, h1, h2⟩ := ih (by omega)
      obtain ⟨o, h3, h4⟩ := hi.2 n (by omega)
      cases o with
      | none =>
        refine ⟨bl, h1, fun w' hw j hj => ?_⟩
        by_cases e : j = n
        · subst e; exact (h3.same (w' := w') (fun g hg => by cases hg)).rd
        · exact h2 w' hw j (by omega)
      | some g0 =>
        refine ⟨g0 :: bl, fun g hg => ?_, fun w' hw j hj => ?_⟩
        · rcases List.mem_cons.1 hg with rfl | hg
          · exact ⟨h3.ltO _ rfl, Nat.le_trans hc (h4 _ rfl)⟩
          · exact h1 g hg
        · by_cases e : j = n
          · subst e; exact (h3.same (w' := w') (fun g hg => by simp at hg; subst hg; exact hw _ (by simp))).rd
          · exact h2 w' (fun g hg => hw g (by simp [hg])) j (by omega)
  obtain ⟨bl, h1, h2⟩ := key vs.length (Nat.le_refl _)
  cases og with
  | none => exact ⟨bl, ⟨fun g hg => (h1 g hg).1, fun w' hw => rdSl (h.same (w' := w') (fun g hg => by cases hg)) hi.1 (h2 w' hw)⟩, fun g hg => (h1 g hg).2⟩
  | some g0 =>
    refine ⟨g0 :: bl, ⟨fun g hg => ?_, fun w' hw => rdSl (h.same (w' := w') (fun g hg => by simp at hg; subst hg; exact hw _ (by simp))) hi.1 (h2 w' (fun g hg => hw g (by simp [hg])))⟩, fun g hg => ?_⟩
    · rcases List.mem_cons.1 hg with rfl | hg
      · exact h.ltO _ rfl
      · exact (h1 g hg).1
    · rcases List.mem_cons.1 hg with rfl | hg
      · exact hb _ rfl
      · exact (h1 g hg).2
def sumL (xss : List (List Int)) : Int := (xss.map fun l => (l.length : Int)).sum
theorem sumL_succ {xss : List (List Int)} {k : Nat} (h : k < xss.length) : sumL (xss.take (k + 1)) = sumL (xss.take k) + ((xss.getD k []).length : Int) := by
  rw [take_succ h ([] : List Int)]; simp [sumL]
theorem sumL_nn : ∀ xss : List (List Int), 0 ≤ sumL xss
  | [] => by simp [sumL]
  | l :: r => by have := sumL_nn r; simp only [sumL, List.map_cons, List.sum_cons] at *; omega
theorem sumL_app (a b : List (List Int)) : sumL (a ++ b) = sumL a + sumL b := by simp [sumL]
theorem sumL_take (xss : List (List Int)) (k : Nat) : sumL (xss.take k) ≤ sumL xss := by
  have h := sumL_app (xss.take k) (xss.drop k)
  rw [List.take_append_drop] at h
  have := sumL_nn (xss.drop k); omega
theorem sumL_get {xss : List (List Int)} {k : Nat} (h : k < xss.length) : ((xss.getD k []).length : Int) ≤ sumL xss := by
  have h1 := sumL_succ h; have h2 := sumL_take xss (k + 1); have h3 := sumL_nn (xss.take k); omega
theorem fill_set {vs : List Value} {n k : Nat} {d v : Value} (h : vs.length = k) (hk : k < n) : (vs ++ List.replicate (n - k) d).set k v = (vs ++ [v]) ++ List.replicate (n - (k + 1)) d := by
  have : n - k = (n - (k + 1)) + 1 := by omega
  rw [this, List.replicate_succ, List.set_append_right _ _ (by omega)]
  have e : k - vs.length = 0 := by omega
  rw [e]; simp
theorem Lo.ogn {c : World} {og : Option Nat} (h : OgR c none og) : Lo c og := fun g hg => (h g hg).resolve_left (by simp)
end Go.WX
