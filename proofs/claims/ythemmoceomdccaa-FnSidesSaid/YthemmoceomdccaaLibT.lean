/- Structs of four lists, and lists of such. No condition. -/
import Derived.Test.YthemmoceomdccaaLibO
import Derived.Test.YthemmoceomdccaaLibG2
import Derived.Test.YthemmoceomdccaaPlN
namespace Go.WX
open Go

@[reducible] def ECh : Enc C4 := EP2 (ESl EI) (EP2 (ESl EI) (EP2 (ESl EI) (ESl EI)))
theorem ECh.parts {w : World} {x : C4} {cs : List Value} (h : ECh.rep w x cs) : ∃ v0 v1 v2 v3, cs = [v0, v1, v2, v3] ∧ Rd EI w v0 x.1 ∧ Rd EI w v1 x.2.1 ∧ Rd EI w v2 x.2.2.1 ∧ Rd EI w v3 x.2.2.2 := by
  obtain ⟨c, d, rfl, ⟨v0, rfl, h0⟩, c2, d2, rfl, ⟨v1, rfl, h1⟩, c3, d3, rfl, ⟨v2, rfl, h2⟩, ⟨v3, rfl, h3⟩⟩ := h
  exact ⟨v0, v1, v2, v3, rfl, h0, h1, h2, h3⟩
theorem ECh.mk {w : World} {x0 x1 x2 x3 : List Int} {v0 v1 v2 v3 : Value} (h0 : Rd EI w v0 x0) (h1 : Rd EI w v1 x1) (h2 : Rd EI w v2 x2) (h3 : Rd EI w v3 x3) : ECh.rep w (x0, x1, x2, x3) [v0, v1, v2, v3] :=
  ⟨[v0], [v1, v2, v3], rfl, ⟨v0, rfl, h0⟩, [v1], [v2, v3], rfl, ⟨v1, rfl, h1⟩, [v2], [v3], rfl, ⟨v2, rfl, h2⟩, ⟨v3, rfl, h3⟩⟩
/-- The lists of four lists, one of them. -/
theorem rd4get {w : World} {x0 x1 x2 x3 : List Int} {v0 v1 v2 v3 : Value} (h0 : Rd EI w v0 x0) (h1 : Rd EI w v1 x1) (h2 : Rd EI w v2 x2) (h3 : Rd EI w v3 x3) {k : Nat} (hk : k < 4) : Rd EI w ([v0, v1, v2, v3].getD k (.slice none 0 0)) ([x0, x1, x2, x3].getD k []) := by
  rcases k with _ | _ | _ | _ | k
  · exact h0
  · exact h1
  · exact h2
  · exact h3
  · omega
theorem rdOw {α : Type} {E : Enc α} {w : World} {og : Option Nat} {v : Value} {css : List (List Value)} {xs : List α} (h : Ow w og E.size v css.flatten) (hl : css.length = xs.length) (hi : ∀ (j : Nat) (c : List Value) (x : α), css[j]? = some c → xs[j]? = some x → E.rep w x c) (hs : 0 < E.size) : Rd E w v xs := by
  have hlen : ∀ (l : List (List Value)), (∀ c ∈ l, c.length = E.size) → l.flatten.length = l.length * E.size := by
    intro l; induction l with
    | nil => simp
    | cons a r ih => intro h1; rw [List.flatten_cons, List.length_append, h1 a (by simp), ih (fun c hc => h1 c (by simp [hc])), List.length_cons, Nat.add_mul]; omega
  have hc : ∀ c ∈ css, c.length = E.size := by
    intro c hcm
    obtain ⟨j, hj, he⟩ := List.mem_iff_getElem.1 hcm
    exact E.len (hi j c xs[j] (by simp [hj, he]) (by simp [← hl, hj]))
  have hget : ∀ (l : List (List Value)) (i j : Nat) (c : List Value), (∀ c ∈ l, c.length = E.size) → l[i]? = some c → j < E.size → l.flatten[i * E.size + j]? = c[j]? := by
    intro l; induction l with
    | nil => intro i j c _ h1; simp at h1
    | cons a r ih =>
      intro i j c h1 h2 h3
      have ha := h1 a (by simp)
      rcases i with _ | i
      · simp at h2; subst h2; rw [List.flatten_cons, Nat.zero_mul, Nat.zero_add, List.getElem?_append_left (by omega)]
      · have e : (i + 1) * E.size + j = E.size + (i * E.size + j) := by rw [Nat.add_mul]; omega
        rw [List.flatten_cons, e, List.getElem?_append_right (by omega), ha]
        rw [show E.size + (i * E.size + j) - E.size = i * E.size + j from by omega]
        exact ih i j c (fun c hc => h1 c (by simp [hc])) (by simpa using h2) h3
  have h' := h
  rcases h with ⟨rfl, rfl, h3⟩ | ⟨g, l, cap, cur, e, h1, rfl, h3, h4, h5, h6, h7, h8⟩
  · have h0 := hlen css hc
    rw [h3] at h0
    have : css.length = 0 := by
      rcases Nat.eq_zero_or_pos css.length with q | q
      · exact q
      · have h9 := Nat.mul_pos q hs
        rw [← h0] at h9; simp at h9
    have hx : xs = [] := List.eq_nil_of_length_eq_zero (by omega)
    subst hx; exact Rd.nil E w
  · have hl2 : l = xs.length := by
      have := hlen css hc
      rw [this] at h4
      have := Nat.eq_of_mul_eq_mul_right hs h4
      omega
    subst hl2
    refine ⟨by simp only [maxLen] at h8; omega, .inr ⟨⟨g, 0, none⟩, cap, rfl, h7, fun i x hx => ?_⟩⟩
    have hi2 : i < xs.length := by
      rcases Nat.lt_or_ge i xs.length with q | q
      · exact q
      · rw [List.getElem?_eq_none q] at hx; cases hx
    have hci : css[i]? = some (css[i]'(by omega)) := by simp [hl, hi2]
    have hcl := hc (css[i]'(by omega)) (List.getElem_mem _)
    refine ⟨rfl, css[i]'(by omega), hi i _ x hci hx, rfl, fun j u hj => ?_⟩
    have hj2 : j < E.size := by
      rcases Nat.lt_or_ge j E.size with q | q
      · exact q
      · rw [List.getElem?_eq_none (by omega)] at hj; cases hj
    have hcc := (h'.cellsAt rfl).2 (i * E.size + j) u (by rw [hget css i j _ hc hci hj2]; exact hj)
    simpa [padd, Nat.add_assoc] using hcc
/-- A literal list of structs. -/
theorem OpK.buildCh {P : Program} {n : Nat} {σ : Fr} {w : World} {K : Fr → World → Prop} {d : Nat} {ty t e yy : Nat} {pos : String} {af : Array Edge} {gd : Option (Nat × Bool)} {os : List Operand} {l : Nat} {parts : Array (Nat × Operand)} (css : List (List Value)) (cs : List C4)
    (hb : Nat.blt d n = true) (ht : slOf P t = some (e, 4, yy)) (hp : parts.toList = os.zipIdx.map fun (x, i) => (i, x)) (hl : os.length = l) {zv : Value} (hz : zvOf P e = some zv) (hx : evs σ os = some (css.map fun c => .agg c.toArray)) (h1 : ∀ c ∈ css, c.length = 4)
    (hlen : css.length = cs.length) (hi : ∀ w', Ext w w' → ∀ (j : Nat) (c : List Value) (x : C4), css[j]? = some c → cs[j]? = some x → ECh.rep w' x c) (hbig : Nat.ble (l * 4) 1000 = true)
    (hk : ∀ v w', Ext w w' → Rd ECh w' v cs → K ((d, v) :: σ) w') : OpK P n ⟨some d, .buildSlice t l parts, ty, pos, af, gd⟩ σ w K := by
  refine .buildSlice (css := css) hb ht hp hl hz hx ?_ h1 hbig rfl (fun v g w' e1 e2 e3 => hk v w' e1 (rdOw (E := ECh) e2 hlen (hi w' e1) (by decide)))
  rw [List.map_map]; rfl
end Go.WX
