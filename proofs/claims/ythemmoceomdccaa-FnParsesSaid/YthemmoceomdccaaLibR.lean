/- Laws of arrays that lie in boxes. No condition. -/
import Derived.Test.YthemmoceomdccaaLibM
import Derived.Test.YthemmoceomdccaaLibJ
import Derived.Test.YthemmoceomdccaaLibQ
namespace Go.WX
open Go

def azOf (P : Program) (t : TypeId) : Option (List Value) :=
  match P.info? t, P.underlying t with
  | some it, some (.array _ e) =>
    match it.zero, P.info? e with
    | some z, some _ => some z.cells.toList
    | _, _ => none
  | _, _ => none

section
variable {P : Program} {n : Nat} {σ : Fr} {b w : World} {x y : Operand} {v : Value} {dst : Option Nat} {d : Nat} {ty : TypeId} {pos : String} {af : Array Edge} {gd : Option (Nat × Bool)} {t e : TypeId} {k m s : Nat} {p : Addr} {cs : List Value} {K : Fr → World → Prop} {α : Type}

theorem azOf_spec {l : List Value} (h : azOf P t = some l) : ∃ it z ln e ie, P.info? t = some it ∧ P.underlying t = some (.array ln e) ∧ it.zero = some z ∧ P.info? e = some ie ∧ z.cells = l.toArray := by
  unfold azOf at h
  split at h
  · rename_i it ln e h1 h2
    split at h
    · rename_i z ie h3 h4
      simp only [Option.some.injEq] at h
      exact ⟨it, z, ln, e, ie, h1, h2, h3, h4, by rw [← h]⟩
    · simp at h
  · simp at h
theorem PV.buildArr {f : α → Value} {x0 : α} (ht : azOf P t = some (List.replicate m (f x0))) : PV P n σ w ⟨dst, .build t #[], ty, pos, af, gd⟩ (.agg ((List.replicate m x0).map f).toArray) := fun a ha => by
  obtain ⟨it, z, ln, e, ie, h1, h2, h3, h4, h5⟩ := azOf_spec ht
  have h6 : P.built t [] = some ((List.replicate m x0).map f).toArray := by
    unfold Program.built
    simp only [h1, h2, h3, h4, Instr.fill, h5, List.map_replicate]
  have := run_build w t #[] _ (by simpa using h6)
  simp [execOp, this]
theorem OpK.allocArr {f : α → Value} {x0 : α} (hb : Nat.blt d n = true) (ht : azOf P t = some (List.replicate m (f x0)))
    (hk : ∀ p w', Ext w w' → Bx w' p ((List.replicate m x0).map f) → w.heap.size ≤ p.block → K ((d, .pointer (some p)) :: σ) w') : OpK P n ⟨some d, .alloc t, ty, pos, af, gd⟩ σ w K := by
  obtain ⟨it, z, ln, e, ie, h1, h2, h3, h4, h5⟩ := azOf_spec ht
  exact .alloc hb (z := z) (by simp [zvOf, h1, h3]) (cs := (List.replicate m x0).map f) (by rw [h5, List.map_replicate]) hk
theorem OpK.boxArr {f : α → Value} {xs : List α} (hb : Nat.blt d n = true) (hx : ev σ x = some (.agg (xs.map f).toArray))
    (hk : ∀ p w', Ext w w' → Bx w' p (xs.map f) → w.heap.size ≤ p.block → K ((d, .pointer (some p)) :: σ) w') : OpK P n ⟨some d, .box t x, ty, pos, af, gd⟩ σ w K :=
  .box hb hx rfl hk
theorem OpK.storeArrA {f : α → Value} {xs ys : List α} (hm : szOf P t = some m) (hx : ev σ x = some (.pointer (some p))) (hy : ev σ y = some (.agg (xs.map f).toArray)) (hl : xs.length = m) (ho : ys.length = m) (h1 : ∀ x, (f x).oneCell' = true) (hb : Bx w p (ys.map f))
    (hK : ∀ w', Upd (some p.block) w w' → Bx w' p (xs.map f) → K σ w') : OpK P n ⟨none, .store t x y, ty, pos, af, gd⟩ σ w K :=
  .storeA hm hx hy (by simpa using hl) (by simpa using ho) (fun v hv => by obtain ⟨x, _, rfl⟩ := List.mem_map.1 hv; exact h1 x) hb hK
/-- A store into an array. -/
theorem OpK.storeArr {f : α → Value} {xs : List α} {u : α} (hs : szOf P t = some 1) (hx : ev σ x = some (.pointer (some (padd p k)))) (hy : ev σ y = some (f u)) (hu : (f u).oneCell' = true) (hb : Bx w p (xs.map f)) (hk : k < xs.length)
    (hK : ∀ w', Upd (some p.block) w w' → Bx w' p ((xs.set k u).map f) → K σ w') : OpK P n ⟨none, .store t x y, ty, pos, af, gd⟩ σ w K :=
  .storeB hs hx hy hu hb (by simpa using hk) (fun w' h1 h2 => hK w' h1 (by rw [List.map_set]; exact h2))
theorem PV.loadArr {f : α → Value} {xs : List α} (d0 : α) (ht : naOf P t = true) (hx : ev σ x = some (.pointer (some (padd p k)))) (hc : Cells b p (xs.map f)) (he : Ext b w) (hk : k < xs.length) : PV P n σ w ⟨dst, .load t x, ty, pos, af, gd⟩ (f (xs.getD k d0)) :=
  PV.load1 ht hx hc he (by simp [hk])
theorem PV.fieldAddrP0 {i o u : Nat} (hf : flOf P t i = some (0, u, o)) (hx : ev σ x = some (.pointer (some (padd p k)))) : PV P n σ w ⟨dst, .fieldAddr t x i, ty, pos, af, gd⟩ (.pointer (some (padd p k))) :=
  PV.fieldAddrP hf hx (Nat.add_zero _)
theorem PV.loadArr3 {f : α → Value} {xs : List α} (d0 : α) (ht : agOf P t = some 3) (hx : ev σ x = some (.pointer (some (padd p k)))) (hc : Cells b p (xs.map f)) (he : Ext b w) (hk : k + 3 ≤ xs.length) :
    PV P n σ w ⟨dst, .load t x, ty, pos, af, gd⟩ (.agg #[f (xs.getD k d0), f (xs.getD (k + 1) d0), f (xs.getD (k + 2) d0)]) := by
  refine PV.loadP (ds := [f (xs.getD k d0), f (xs.getD (k + 1) d0), f (xs.getD (k + 2) d0)]) ht hx hc he ?_ rfl
  refine List.ext_getElem? (fun j => ?_)
  rw [List.getElem?_take]
  by_cases h : j < 3
  · rw [if_pos h, List.getElem?_drop, List.getElem?_map]
    have : k + j < xs.length := by omega
    rcases j with _ | _ | _ | j
    · simp [List.getD_eq_getElem?_getD, show k < xs.length by omega]
    · simp [List.getD_eq_getElem?_getD, show k + 1 < xs.length by omega]
    · simp [List.getD_eq_getElem?_getD, show k + 2 < xs.length by omega]
    · omega
  · rw [if_neg h]; simp; omega
/-- A store of three cells into an array. -/
theorem OpK.storeArr3 {f : α → Value} {xs : List α} {u0 u1 u2 : α} (hs : szOf P t = some 3) (hx : ev σ x = some (.pointer (some (padd p k)))) (hy : ev σ y = some (.agg #[f u0, f u1, f u2])) (h0 : (f u0).oneCell' = true) (h1 : (f u1).oneCell' = true) (h2 : (f u2).oneCell' = true) (hb : Bx w p (xs.map f)) (hk : k + 3 ≤ xs.length)
    (hK : ∀ w', Upd (some p.block) w w' → Bx w' p ((((xs.set k u0).set (k + 1) u1).set (k + 2) u2).map f) → K σ w') : OpK P n ⟨none, .store t x y, ty, pos, af, gd⟩ σ w K := by
  refine .storeAP (new := [f u0, f u1, f u2]) hs hx hy rfl (by rw [List.length_map]; simpa [Nat.ble_eq] using hk) (fun v hv => ?_) hb (fun w' e1 e2 => hK w' e1 ?_)
  · simp only [List.mem_cons, List.not_mem_nil, or_false] at hv
    rcases hv with rfl | rfl | rfl <;> assumption
  · have e : (((xs.set k u0).set (k + 1) u1).set (k + 2) u2).map f = (xs.map f).take k ++ [f u0, f u1, f u2] ++ (xs.map f).drop (k + 3) := by
      refine List.ext_getElem? (fun j => ?_)
      simp only [List.getElem?_map, List.getElem?_set, List.length_set, List.getElem?_append, List.length_append, List.length_take, List.length_map, List.length_cons, List.length_nil, List.getElem?_take, List.getElem?_drop]
      rw [Nat.min_eq_left (by omega)]
      by_cases a1 : k + 2 = j
      · subst a1; simp [show k + 2 < xs.length by omega]; intro h; omega
      · by_cases a2 : k + 1 = j
        · subst a2; simp [show k + 1 < xs.length by omega]; intro h; omega
        · by_cases a3 : k = j
          · subst a3; simp [show k < xs.length by omega]
          · by_cases a4 : j < k
            · simp [a1, a2, a3, a4]; omega
            · simp [a1, a2, a3, a4, show ¬ j < k + 3 by omega, show k + 3 + (j - (k + 3)) = j by omega]
    rw [e]; exact e2
/-- The address of an element, from the array's own address; the index is a natural number. -/
theorem PV.ixN {kk : IntKind} {i l e : Nat} (ht : arOf P t = some (l, e, s)) (hx : ev σ x = some (.pointer (some p))) (hsp : p.spot = none) (hy : ev σ y = some (.int kk (i : Int))) (h1 : i < l) : PV P n σ w ⟨dst, .indexAddr t x y, ty, pos, af, gd⟩ (.pointer (some (padd p (i * s)))) := by
  have := PV.indexArr (dst := dst) (ty := ty) (pos := pos) (af := af) (gd := gd) (n := n) (w := w) ht hx hsp hy (by omega) (by omega)
  simpa using this
theorem PV.ixZ {kk : IntKind} {z : Int} {l e : Nat} (ht : arOf P t = some (l, e, s)) (hx : ev σ x = some (.pointer (some p))) (hsp : p.spot = none) (hy : ev σ y = some (.int kk z)) (h1 : 0 ≤ z ∧ z < l) : PV P n σ w ⟨dst, .indexAddr t x y, ty, pos, af, gd⟩ (.pointer (some (padd p (z.toNat * s)))) :=
  PV.indexArr ht hx hsp hy h1.1 h1.2
theorem PV.ixPN {kk : IntKind} {i l e : Nat} (ht : arOf P t = some (l, e, s)) (hx : ev σ x = some (.pointer (some (padd p k)))) (hy : ev σ y = some (.int kk (i : Int))) (h1 : i < l) : PV P n σ w ⟨dst, .indexAddr t x y, ty, pos, af, gd⟩ (.pointer (some (padd p (k + i * s)))) := by
  have := PV.ixN (dst := dst) (ty := ty) (pos := pos) (af := af) (gd := gd) (n := n) (w := w) ht hx rfl hy h1
  rwa [padd_padd] at this
theorem PV.ixPN1 {kk : IntKind} {i l e : Nat} (ht : arOf P t = some (l, e, 1)) (hx : ev σ x = some (.pointer (some (padd p k)))) (hy : ev σ y = some (.int kk (i : Int))) (h1 : i < l) : PV P n σ w ⟨dst, .indexAddr t x y, ty, pos, af, gd⟩ (.pointer (some (padd p (k + i)))) := by
  have := PV.ixPN (dst := dst) (ty := ty) (pos := pos) (af := af) (gd := gd) (n := n) (w := w) ht hx hy h1
  rwa [Nat.mul_one] at this
theorem PV.ixPZ {kk : IntKind} {z : Int} {l e : Nat} (ht : arOf P t = some (l, e, s)) (hx : ev σ x = some (.pointer (some (padd p k)))) (hy : ev σ y = some (.int kk z)) (h1 : 0 ≤ z ∧ z < l) : PV P n σ w ⟨dst, .indexAddr t x y, ty, pos, af, gd⟩ (.pointer (some (padd p (k + z.toNat * s)))) := by
  have := PV.ixZ (dst := dst) (ty := ty) (pos := pos) (af := af) (gd := gd) (n := n) (w := w) ht hx rfl hy h1
  rwa [padd_padd] at this
theorem PV.ixPZ1 {kk : IntKind} {z : Int} {l e : Nat} (ht : arOf P t = some (l, e, 1)) (hx : ev σ x = some (.pointer (some (padd p k)))) (hy : ev σ y = some (.int kk z)) (h1 : 0 ≤ z ∧ z < l) : PV P n σ w ⟨dst, .indexAddr t x y, ty, pos, af, gd⟩ (.pointer (some (padd p (k + z.toNat)))) := by
  have := PV.ixPZ (dst := dst) (ty := ty) (pos := pos) (af := af) (gd := gd) (n := n) (w := w) ht hx hy h1
  rwa [Nat.mul_one] at this
end
theorem bxM {α : Type} {f : α → Value} {w : World} {p : Addr} {xs ys : List α} (h : Bx w p (xs.map f)) (e : xs = ys) : Bx w p (ys.map f) := e ▸ h
end Go.WX
