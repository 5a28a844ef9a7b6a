/- An append that leaves what was there to be read. No condition. -/
import Derived.Test.YthemmoceomdccaaLibG
namespace Go.WX
open Go

section
variable {P : Program} {n : Nat} {σ : Fr} {w w' : World} {x y : Operand} {v xv : Value} {d : Nat} {ty : TypeId} {pos : String} {af : Array Edge} {gd : Option (Nat × Bool)} {t e : TypeId} {yy : Nat} {K : Fr → World → Prop}
variable {α : Type} {f : α → Value} {og og' : Option Nat} {xs ys : List α} {v' : Value}

/-- What a list that was given away still reads. -/
def Keep {α : Type} {f : α → Value} {w : World} {og : Option Nat} {v : Value} {xs : List α} (_h : Osl f w og v xs) (w9 : World) : Prop := Rd (.sc f) w9 v xs
theorem Keep.cells {h : Osl f w og v xs} {w9 : World} {p : Addr} {i : Nat} {dv : α} (k : Keep h w9) (hp : EP v i 1 p) (hi : i < xs.length) : Cells w9 p [f (xs.getD i dv)] := by
  obtain ⟨q, cs, h1, h2, h3⟩ := Rd.at k hi dv
  obtain ⟨a, l, cap, rfl, h4, h5, rfl⟩ := hp
  obtain ⟨a2, l2, cap2, e2, _, h6, rfl⟩ := h1
  cases e2
  have e3 : cs = [f (xs.getD i dv)] := h3
  rw [e3] at h2; exact h2
theorem Osl.kept (ho : Osl f w og v xs) (hu : Upd og w w') (hn : Osl f w' og' v' (xs ++ ys)) (hc : og' = og ∨ Ext w w') : Rd (.sc f) w' v xs := by
  rcases hc with rfl | hc
  · rcases ho with ⟨_, rfl, h2⟩ | ⟨g, l, cap, cur, e, h1, rfl, h3, h4, h5, h6, h7, h8⟩
    · have : xs = [] := by simpa using h2
      subst this; exact Rd.nil _ _
    · have hl : xs.length = l := by simpa using h4
      refine ⟨by simp only [maxLen] at h8; omega, .inr ⟨⟨g, 0, none⟩, cap, by rw [hl], by omega, fun i x hx => ⟨rfl, [f x], rfl, rfl, fun j u hj => ?_⟩⟩⟩
      rcases hn with ⟨h9, _⟩ | ⟨g2, l2, cap2, cur2, e2, k1, rfl, k3, k4, k5, _⟩
      · rw [h1] at h9; cases h9
      · rw [h1] at k1; cases k1
        match j, hj with
        | 0, hj =>
          simp at hj; subst hj
          have hlt : i < l := by rw [← hl]; exact (List.getElem?_eq_some_iff.1 hx).1
          have h9 : ((xs ++ ys).map f)[i]? = some (f x) := by
            rw [List.getElem?_map, List.getElem?_append_left (by omega), hx]; rfl
          rw [← k5, List.getElem?_take] at h9
          split at h9
          · simpa [World.cell?, padd, k3, Enc.sc] using h9
          · cases h9
        | j + 1, hj => simp at hj
  · exact (Osl.rd ho).up hc
theorem OpK.appendSK {zv : Value} (hb : Nat.blt d n = true) (ht : slOf P t = some (e, 1, yy)) (hz : zvOf P e = some zv) (hzs : zv.cells.size = 1)
    (hx : ev σ x = some v) (ho : Osl f w og v xs) (hy : ev σ y = some xv) (hsrc : Src w 1 xv (ys.map f))
    (hN : (xs.length + ys.length) * yy ≤ 140737488355328 ∧ xs.length + ys.length ≤ 140737488355328)
    (hk : ∀ v' og' w', Upd og w w' → Osl f w' og' v' (xs ++ ys) → (og' = og ∨ ∃ g, og' = some g ∧ w.heap.size ≤ g) → Rd (.sc f) w' v xs → K ((d, v') :: σ) w') :
    OpK P n ⟨some d, .call ⟨.builtin .append, #[x, y], #[t, t]⟩, ty, pos, af, gd⟩ σ w K := by
  obtain ⟨h1, i, h2, h3, h4⟩ := slOf_spec ht
  have hz' : i.zero = some zv := by simpa [zvOf, h2] using hz
  subst h4
  obtain ⟨l, hl, hxx, h1c⟩ := hsrc
  obtain ⟨v', w', og', k1, k2, k3, k4, k5⟩ := run_append_owX (P := P) (ty := ty) h1 h2 hz' (by rw [hzs, h3]) (by omega) (by rw [h3]; exact ho) (by rw [h3]; exact hl) hxx h1c (by simpa using hN.1) (by simpa using hN.2)
  have k2' : Osl f w' og' v' (xs ++ ys) := by unfold Osl; rw [List.map_append]; rw [h3] at k2; exact k2
  exact .val rfl hb (fun a ha => by simp [execOp, resolve, invoke, builtin, ha.eval hx, ha.eval hy, k1]) (hk v' og' w' k3 k2' k4 (Osl.kept ho k3 k2' k5))
end
end Go.WX
