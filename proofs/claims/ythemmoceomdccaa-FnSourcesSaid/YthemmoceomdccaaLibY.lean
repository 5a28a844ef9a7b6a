/- Owned lists of structs whose first cell is an owned list. No condition. -/
import Derived.Test.YthemmoceomdccaaLibW
import Derived.Test.YthemmoceomdccaaPlOv
namespace Go.WX
open Go

/-- The values of a change read as its lists. -/
def CH (w : World) (q : H4) (c : C4) : Prop := Rd EI w (vSH q.1) c.1 ∧ Rd EI w (vSH q.2.1) c.2.1 ∧ Rd EI w (vSH q.2.2.1) c.2.2.1 ∧ Rd EI w (vSH q.2.2.2) c.2.2.2
theorem CH.mk {w : World} {v0 v1 v2 v3 : Value} {c : C4} (h0 : Rd EI w v0 c.1) (h1 : Rd EI w v1 c.2.1) (h2 : Rd EI w v2 c.2.2.1) (h3 : Rd EI w v3 c.2.2.2) : CH w (shOf v0, shOf v1, shOf v2, shOf v3) c := by
  unfold CH; simp only [shOf_of h0, shOf_of h1, shOf_of h2, shOf_of h3]; exact ⟨h0, h1, h2, h3⟩
theorem EP.inj {v : Value} {i s : Nat} {p p' : Addr} (h : EP v i s p) (k : EP v i s p') : p = p' := by
  obtain ⟨a, l, cap, rfl, _, _, rfl⟩ := h
  obtain ⟨a', l', cap', h1, _, _, rfl⟩ := k
  simp at h1; rw [h1.1]
/-- An element of a list of changes: its values, which read so wherever the list reads so. -/
theorem Rd.chAt {w : World} {va : Value} {cs : List C4} (h : Rd ECh w va cs) {i : Nat} (hi : i < cs.length) :
    ∃ p v0 v1 v2 v3, EP va i 4 p ∧ Cells w p [v0, v1, v2, v3] ∧ Rd EI w v0 (cs.getD i d4).1 ∧ Rd EI w v1 (cs.getD i d4).2.1 ∧ Rd EI w v2 (cs.getD i d4).2.2.1 ∧ Rd EI w v3 (cs.getD i d4).2.2.2 ∧
      ∀ b, Ext b w → Rd ECh b va cs → CH b (shOf v0, shOf v1, shOf v2, shOf v3) (cs.getD i d4) := by
  obtain ⟨p, l, h1, h2, h3⟩ := h.at hi d4
  obtain ⟨v0, v1, v2, v3, rfl, k0, k1, k2, k3⟩ := ECh.parts h3
  refine ⟨p, v0, v1, v2, v3, h1, h2, k0, k1, k2, k3, fun b e hb => ?_⟩
  obtain ⟨p', l', g1, g2, g3⟩ := hb.at hi d4
  obtain ⟨u0, u1, u2, u3, rfl, m0, m1, m2, m3⟩ := ECh.parts g3
  obtain rfl := EP.inj h1 g1
  have g4 := (g2.up e).2
  have e0 := (g4 0 u0 rfl).symm.trans (h2.2 0 v0 rfl); have e1 := (g4 1 u1 rfl).symm.trans (h2.2 1 v1 rfl)
  have e2 := (g4 2 u2 rfl).symm.trans (h2.2 2 v2 rfl); have e3 := (g4 3 u3 rfl).symm.trans (h2.2 3 v3 rfl)
  obtain rfl := Option.some.inj e0; obtain rfl := Option.some.inj e1; obtain rfl := Option.some.inj e2; obtain rfl := Option.some.inj e3
  exact CH.mk m0 m1 m2 m3
theorem Osn.cellsEP {α : Type} {s : Nat} {g : α → List Value} {w : World} {og : Option Nat} {v : Value} {xs : List α} (h : Osn s g w og v xs) {i : Nat} {p : Addr} (hp : EP v i s p) (hi : i < xs.length) (d : α) : Cells w p (g (xs.getD i d)) := by
  obtain ⟨p', cs, h1, h2, h3⟩ := h.rd.at hi d
  have h4 : cs = g (xs.getD i d) := h3
  subst h4
  rw [EP.inj hp h1]; exact h2

/-! ### A word, and two changes -/
abbrev O9 : Type := SH × H4 × H4
def gO (q : O9) : List Value := [vSH q.1, vSH q.2.1.1, vSH q.2.1.2.1, vSH q.2.1.2.2.1, vSH q.2.1.2.2.2, vSH q.2.2.1, vSH q.2.2.2.1, vSH q.2.2.2.2.1, vSH q.2.2.2.2.2]
abbrev nO : O9 := ((none, 0, 0), nH4, nH4)
theorem gO_ok : Gn 9 gO := ⟨by decide, fun _ => rfl, fun x u hu => by
  simp only [gO, List.mem_cons, List.not_mem_nil, or_false] at hu
  rcases hu with rfl | rfl | rfl | rfl | rfl | rfl | rfl | rfl | rfl <;> rfl⟩
def fO (q : O9) : Value := vSH q.1
section
variable {w w2 : World} {α : Type} {E : Enc α} {v a0 a1 a2 a3 b0 b1 b2 b3 : Value} {xs : List α} {c d : C4}
theorem gO_agg (h : Rd E w2 v xs) (h0 : Rd EI w a0 c.1) (h1 : Rd EI w a1 c.2.1) (h2 : Rd EI w a2 c.2.2.1) (h3 : Rd EI w a3 c.2.2.2) (k0 : Rd EI w b0 d.1) (k1 : Rd EI w b1 d.2.1) (k2 : Rd EI w b2 d.2.2.1) (k3 : Rd EI w b3 d.2.2.2) :
    Value.agg #[v, a0, a1, a2, a3, b0, b1, b2, b3] = .agg (gO (shOf v, (shOf a0, shOf a1, shOf a2, shOf a3), (shOf b0, shOf b1, shOf b2, shOf b3))).toArray := by
  simp only [gO, shOf_of h, shOf_of h0, shOf_of h1, shOf_of h2, shOf_of h3, shOf_of k0, shOf_of k1, shOf_of k2, shOf_of k3]
theorem fO_put {qs : List O9} {r : H4 × H4} (h : Rd E w v xs) : qs.map fO ++ [v] = (qs ++ [(shOf v, r)]).map fO := by
  rw [List.map_append]; show _ = _ ++ [vSH (shOf v)]; rw [shOf_of h]
end
abbrev T3 : Type := Nat × Nat × Nat
/-- Each element bears the two changes that meet. -/
def CO (w : World) (va : Value) (cs : List C4) (qs : List O9) (ts : List T3) : Prop := qs.length = ts.length ∧ ∀ k, k < ts.length → ∀ b, Ext b w → Rd ECh b va cs →
  CH b (qs.getD k nO).2.1 (cs.getD (ts.getD k (0, 0, 0)).1 d4) ∧ CH b (qs.getD k nO).2.2 (cs.getD (ts.getD k (0, 0, 0)).2.1 d4)
theorem CO.zero (w : World) (va : Value) (cs : List C4) : CO w va cs [] [] := ⟨rfl, fun k h => by simp at h⟩
theorem getD_snoc1 {α : Type} {l : List α} {x d : α} {k : Nat} (h : k < l.length) : (l ++ [x]).getD k d = l.getD k d := by
  rw [List.getD_eq_getElem?_getD, List.getElem?_append_left h, ← List.getD_eq_getElem?_getD]
theorem getD_snoc2 {α : Type} {l : List α} {x d : α} {k : Nat} (h : k = l.length) : (l ++ [x]).getD k d = x := by
  subst h; simp [List.getD_eq_getElem?_getD]
theorem CO.put {w : World} {va : Value} {cs : List C4} {qs : List O9} {ts : List T3} (h : CO w va cs qs ts) {q : O9} {t : T3} (hq : ∀ b, Ext b w → Rd ECh b va cs → CH b q.2.1 (cs.getD t.1 d4) ∧ CH b q.2.2 (cs.getD t.2.1 d4)) : CO w va cs (qs ++ [q]) (ts ++ [t]) := by
  refine ⟨by simp [h.1], fun k hk => ?_⟩
  rw [List.length_append] at hk
  by_cases e : k < ts.length
  · rw [getD_snoc1 e, getD_snoc1 (by rw [h.1]; exact e)]; exact h.2 k e
  · have e2 : k = ts.length := by simp at hk; omega
    rw [getD_snoc2 e2, getD_snoc2 (by rw [h.1]; exact e2)]; exact hq
theorem fO_rd {w : World} {os : List (Option Nat)} {qs : List O9} {xss : List (List Int)} (h : Inn w os (qs.map fO) xss) {k : Nat} (hk : k < xss.length) : Rd EI w (vSH (qs.getD k nO).1) (xss.getD k []) := by
  have h1 := h.rd hk
  have hl : qs.length = xss.length := by have := h.lv; simpa using this
  have e : (qs.map fO).getD k (.slice none 0 0) = vSH (qs.getD k nO).1 := by simp [List.getD_eq_getElem?_getD, show k < qs.length from by omega, fO]
  rw [e] at h1; exact h1

/-! ### A word, a place, and the numbers of two changes -/
abbrev M4 : Type := SH × Int × Int × Int
def gM (q : M4) : List Value := [vSH q.1, VI q.2.1, VI q.2.2.1, VI q.2.2.2]
abbrev nM : M4 := ((none, 0, 0), 0, 0, 0)
theorem gM_ok : Gn 4 gM := ⟨by decide, fun _ => rfl, fun x u hu => by
  simp only [gM, List.mem_cons, List.not_mem_nil, or_false] at hu
  rcases hu with rfl | rfl | rfl | rfl <;> rfl⟩
def fM (q : M4) : Value := vSH q.1
theorem gM_agg {w : World} {α : Type} {E : Enc α} {v : Value} {xs : List α} (h : Rd E w v xs) (a b c : Int) : Value.agg #[v, .int .i64 a, .int .i64 b, .int .i64 c] = .agg (gM (shOf v, a, b, c)).toArray := by
  simp only [gM, shOf_of h]
theorem fM_put {w : World} {α : Type} {E : Enc α} {v : Value} {xs : List α} {qs : List M4} {r : Int × Int × Int} (h : Rd E w v xs) : qs.map fM ++ [v] = (qs ++ [(shOf v, r)]).map fM := by
  rw [List.map_append]; show _ = _ ++ [vSH (shOf v)]; rw [shOf_of h]
/-- Where the latter begins, and which changes they are. -/
def tM (cs : List C4) (t : T3) : Int × Int × Int := (((patL cs t.1).length : Int) - (t.2.2 : Nat), ((t.1 : Nat) : Int), ((t.2.1 : Nat) : Int))
def MO (cs : List C4) (qs : List M4) (ts : List T3) : Prop := qs.length = ts.length ∧ ∀ k, k < ts.length → (qs.getD k nM).2 = tM cs (ts.getD k (0, 0, 0))
theorem MO.zero (cs : List C4) : MO cs [] [] := ⟨rfl, fun k h => by simp at h⟩
theorem MO.put {cs : List C4} {qs : List M4} {ts : List T3} (h : MO cs qs ts) {q : M4} {t : T3} (hq : q.2 = tM cs t) : MO cs (qs ++ [q]) (ts ++ [t]) := by
  refine ⟨by simp [h.1], fun k hk => ?_⟩
  rw [List.length_append] at hk
  by_cases e : k < ts.length
  · rw [getD_snoc1 e, getD_snoc1 (by rw [h.1]; exact e)]; exact h.2 k e
  · have e2 : k = ts.length := by simp at hk; omega
    rw [getD_snoc2 e2, getD_snoc2 (by rw [h.1]; exact e2)]; exact hq
theorem fM_rd {w : World} {os : List (Option Nat)} {qs : List M4} {xss : List (List Int)} (h : Inn w os (qs.map fM) xss) {k : Nat} (hk : k < xss.length) : Rd EI w (vSH (qs.getD k nM).1) (xss.getD k []) := by
  have h1 := h.rd hk
  have hl : qs.length = xss.length := by have := h.lv; simpa using this
  have e : (qs.map fM).getD k (.slice none 0 0) = vSH (qs.getD k nM).1 := by simp [List.getD_eq_getElem?_getD, show k < qs.length from by omega, fM]
  rw [e] at h1; exact h1
theorem gM_cells {w : World} {p : Addr} {q : M4} {cs : List C4} {t : T3} (h : Cells w p (gM q)) (e : q.2 = tM cs t) : Cells w p [vSH q.1, .int .i64 (((patL cs t.1).length : Int) - (t.2.2 : Nat)), .int .i64 ((t.1 : Nat) : Int), .int .i64 ((t.2.1 : Nat) : Int)] := by
  obtain ⟨q0, q1⟩ := q
  simp only at e
  subst e; exact h
theorem fO_get {qs : List O9} {k : Nat} (h : k < qs.length) : [vSH (qs.getD k nO).1] = [(qs.map fO).getD k (.slice none 0 0)] := by
  simp [List.getD_eq_getElem?_getD, h, fO]
theorem fM_get {qs : List M4} {k : Nat} (h : k < qs.length) : [vSH (qs.getD k nM).1] = [(qs.map fM).getD k (.slice none 0 0)] := by
  simp [List.getD_eq_getElem?_getD, h, fM]
theorem map_takeS {α β : Type} {f : α → β} {l : List α} {k : Nat} {x d : α} (h : k < l.length) (e : x = l.getD k d) : (l.take k).map f ++ [f x] = (l.take (k + 1)).map f := by
  subst e; rw [take_succ h d, List.map_append]; rfl
end Go.WX
