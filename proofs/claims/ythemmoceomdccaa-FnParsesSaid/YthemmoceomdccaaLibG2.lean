/- 'slices.Grow' and 'slices.Concat': appends of made zeros, lists of lists of whatever kind. No condition. -/
import Derived.Test.YthemmoceomdccaaLibN
import Derived.Lib.AppendZeros
namespace Go.WX
open Go
section
variable {P : Program} {n : Nat} {σ : Fr} {w b : World} {x y hi : Operand} {v : Value} {d : Nat} {dst : Option Tmp} {ty : TypeId} {pos : String} {af : Array Edge} {gd : Option (Nat × Bool)} {t ti e s yy : Nat} {kh : IntKind} {K : Fr → World → Prop} {og : Option Nat} {cs : List Value}
theorem PV.capNil (hx : ev σ x = some (.slice none 0 0)) (ht : slOf P t = some (e, s, yy)) : PV P n σ w ⟨dst, .call ⟨.builtin .cap, #[x], #[t]⟩, ty, pos, af, gd⟩ (.int .i64 0) := fun a ha => by
  simp [execOp, resolve, invoke, builtin, Builtin.cap_, ha.eval hx, run_underlying (slOf_spec ht).1, goInt]
theorem PV.sliceNil (ht : slOf P t = some (e, s, yy)) (hx : ev σ x = some (.slice none 0 0)) (hh : ev σ hi = some (.int kh 0)) : PV P n σ w ⟨dst, .slice t x none (some hi) none, ty, pos, af, gd⟩ (.slice none 0 0) :=
  PV.sliceH (m := 0) ht hx hh ⟨none, 0, rfl, Nat.le_refl _⟩ (by omega)
theorem OpK.growA {z : Value} {l : Int} (hb : Nat.blt d n = true) (ht : slOf P t = some (e, s, yy)) (hti : ikOf P ti = some .i64) (hz : zvOf P e = some z) (hzs : z.cells.size = s) (hs : Nat.blt 0 s = true)
    (hx : ev σ x = some (.slice none 0 0)) (hy : ev σ y = some (.int .i64 l)) (h0 : 0 < l ∧ l ≤ 1048576) (hyy : Nat.ble yy 1000 = true)
    (hk : ∀ v g cs w', Ext w w' → Ow w' (some g) s v cs → w.heap.size ≤ g → K ((d, v) :: σ) w') : OpK P n ⟨some d, .call ⟨.builtin .append, #[x, y], #[t, ti]⟩, ty, pos, af, gd⟩ σ w K := by
  obtain ⟨h1, i, h2, h3, h4⟩ := slOf_spec ht
  have hz' : i.zero = some z := by simpa [zvOf, h2] using hz
  have hs' : 0 < i.size := by rw [h3]; simpa using hs
  have hyy' : yy ≤ 1000 := by simpa using hyy
  have el : (l.toNat : Int) = l := by omega
  have hr := Lib.run_append_nil_zeros (P := P) w t ti ty e i z .i64 .i64 h1 (ikOf_spec (by rw [hti])) h2 hz' l.toNat (by omega) hs' (by omega) (by
    rw [h4]; have := Nat.mul_le_mul (show l.toNat ≤ 1048576 by omega) hyy'; omega)
  rw [el] at hr
  have hge := grownCap_ge w l.toNat 0 e
  refine .val (w' := w.drew.alloc (.cells (Builtin.zeroCells z.cells l.toNat ++ Builtin.zeroCells z.cells (grownCap w l.toNat 0 e - l.toNat)) e)) rfl hb (fun a ha => by simp [execOp, resolve, invoke, builtin, ha.eval hx, ha.eval hy, hr]) (hk _ w.heap.size (Builtin.zeroCells z.cells l.toNat).toList _ ?_ (.inr ⟨_, l.toNat, _, _, e, rfl, rfl, heap_alloc_new w.drew _, ?_, ?_, ?_, hge, ?_⟩) (Nat.le_refl _))
  · exact ⟨rfl, rfl, rfl, by simp, fun k hk _ => heap_alloc_old w.drew _ hk⟩
  · rw [Array.length_toList, size_zeroCells, hzs]
  · rw [Array.toList_append]
    rw [List.take_append_of_le_length (by rw [Array.length_toList, size_zeroCells, hzs]; exact Nat.le_refl _), List.take_of_length_le (by rw [Array.length_toList, size_zeroCells, hzs]; exact Nat.le_refl _)]
  · simp only [Array.size_append, size_zeroCells, hzs, ← Nat.add_mul]; congr 1; omega
  · exact grownCap_le_maxLen w l.toNat 0 e (by simp only [maxLen]; omega)
theorem Ow.sl (h : Ow w og s v cs) : ∃ m, IsSl v m := by
  obtain ⟨o, l, cap, h1, h2, h3⟩ := h.shape; exact ⟨l, o, cap, h1, h3⟩
theorem Ow.take0 (h : Ow w og s v cs) (hs : 0 < s) : Ow w og s (slV s v 0 0) [] := by
  have := h.take hs (h := 0) (by omega)
  simpa using this
theorem WL.slG {ops : Array Oper} {Q : Exit → Act → World → Prop} {l : List Oper} (ht : slOf P t = some (e, s, yy)) (hx : ev σ x = some v) (hh : ev σ hi = some (.int kh 0)) (hs : Nat.blt 0 s = true) (ho : Ow w og s v cs)
    (K : ∀ u, (∀ (dst : Option Tmp) (ty : TypeId) (pos : String) (af : Array Edge) (gd : Option (Nat × Bool)) (w : World), PV P n σ w ⟨dst, .slice t x none (some hi) none, ty, pos, af, gd⟩ u) → Ow w og s u [] → WL P n ops Q l σ w) : WL P n ops Q l σ w := by
  obtain ⟨m, hm⟩ := ho.sl
  exact K _ (fun _ _ _ _ _ _ => PV.sliceH ht hx hh hm (by omega)) (by simpa using ho.take0 (by simpa using hs))
end
theorem flatMap_get {α : Type} {s : Nat} {g : α → List Value} (h : Gn s g) : ∀ (xs : List α) (j : Nat) (u : Value), (xs.flatMap g)[j]? = some u → ∃ i x q, xs[i]? = some x ∧ j = i * s + q ∧ (g x)[q]? = some u
  | [], j, u, hj => by simp at hj
  | x :: r, j, u, hj => by
    rw [List.flatMap_cons] at hj
    rcases Nat.lt_or_ge j s with h1 | h1
    · rw [List.getElem?_append_left (by rw [h.len]; exact h1)] at hj
      exact ⟨0, x, j, rfl, by omega, hj⟩
    · rw [List.getElem?_append_right (by rw [h.len]; exact h1), h.len] at hj
      obtain ⟨i, y, q, k1, k2, k3⟩ := flatMap_get h r (j - s) u hj
      exact ⟨i + 1, y, q, by simpa using k1, by rw [Nat.add_mul]; omega, k3⟩
theorem Rd.srcN {α : Type} {s : Nat} {g : α → List Value} {h : Gn s g} {w : World} {xv : Value} {xs : List α} (hr : Rd (EG s g h) w xv xs) : Src w s xv (xs.flatMap g) := by
  refine ⟨xs.length, flat_len h xs, ?_, fun u hu => ?_⟩
  · rcases hr.2 with ⟨rfl, rfl⟩ | ⟨a, cap, h2, h3, h5⟩
    · exact .inl ⟨rfl, rfl⟩
    · refine .inr ⟨a, cap, h2, fun j u hj => ?_⟩
      obtain ⟨i, x, q, k1, k2, k3⟩ := flatMap_get h xs j u hj
      obtain ⟨h4, cs, m1, m2⟩ := h5 i x k1
      have m1' : cs = g x := m1
      subst m1'
      have := m2.2 q u k3
      rw [add_padd h4, k2]
      rw [padd_padd] at this
      exact this
  · obtain ⟨z, _, hz⟩ := List.mem_flatMap.1 hu
    exact h.one z u hz
theorem rdSlE {α : Type} {E : Enc α} {w : World} {og : Option Nat} {v : Value} {vs : List Value} {xss : List (List α)} (h : Osl VV w og v vs) (hl : vs.length = xss.length) (hi : ∀ j, j < vs.length → Rd E w (vs.getD j (.slice none 0 0)) (xss.getD j [])) : Rd (ESl E) w v xss := by
  obtain ⟨h1, h2⟩ := h.rd
  refine ⟨by omega, ?_⟩
  rcases h2 with ⟨rfl, rfl⟩ | ⟨a, cap, h3, h4, h5⟩
  · left
    refine ⟨rfl, ?_⟩
    have : xss.length = 0 := by simpa using hl.symm
    exact List.eq_nil_of_length_eq_zero this
  · refine .inr ⟨a, cap, by rw [h3, hl], by omega, fun i x hx => ?_⟩
    have hi2 : i < xss.length := by
      rcases Nat.lt_or_ge i xss.length with q | q
      · exact q
      · rw [List.getElem?_eq_none q] at hx; cases hx
    obtain ⟨k1, cs, k2, k3⟩ := h5 i (vs.getD i (.slice none 0 0)) (by simp [List.getD_eq_getElem?_getD, hl, hi2])
    refine ⟨k1, cs, ⟨vs.getD i (.slice none 0 0), k2, ?_⟩, k3⟩
    have := hi i (by omega)
    have e : xss.getD i [] = x := by simp [List.getD_eq_getElem?_getD, hx]
    rw [e] at this; exact this
theorem rdSl2 {α : Type} {E : Enc α} {w : World} {og : Option Nat} {v a b : Value} {xs ys : List α} (h : Osl VV w og v [a, b]) (ha : Rd E w a xs) (hb : Rd E w b ys) : Rd (ESl E) w v [xs, ys] :=
  rdSlE h rfl (fun j hj => by
    match j, hj with
    | 0, _ => exact ha
    | 1, _ => exact hb
    | j + 2, hj => exact absurd hj (by simp))
theorem rdSl3 {α : Type} {E : Enc α} {w : World} {og : Option Nat} {v a b c : Value} {xs ys zs : List α} (h : Osl VV w og v [a, b, c]) (ha : Rd E w a xs) (hb : Rd E w b ys) (hc : Rd E w c zs) : Rd (ESl E) w v [xs, ys, zs] :=
  rdSlE h rfl (fun j hj => by
    match j, hj with
    | 0, _ => exact ha
    | 1, _ => exact hb
    | 2, _ => exact hc
    | j + 3, hj => exact absurd hj (by simp))
theorem flat_succ {α : Type} {xs : List (List α)} {k : Nat} (h : k < xs.length) : (xs.take (k + 1)).flatten = (xs.take k).flatten ++ xs.getD k [] := by
  rw [take_succ h ([] : List α)]; simp
theorem flat_put {α : Type} {xs : List (List α)} {k : Nat} (h : k < xs.length) : (xs.take k).flatten ++ xs.getD k [] = (xs.take (k + 1)).flatten := (flat_succ h).symm
theorem flat_le {α : Type} {xs : List (List α)} (k : Nat) : (xs.take k).flatten.length ≤ xs.flatten.length := by
  have e : xs.flatten = (xs.take k).flatten ++ (xs.drop k).flatten := by rw [← List.flatten_append, List.take_append_drop]
  rw [e, List.length_append]; omega
end Go.WX
