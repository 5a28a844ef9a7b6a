/- Laws of arrays that lie in boxes. No condition. -/
import Derived.Test.YtafjpclpmbhmdaaLibM
import Derived.Test.YtafjpclpmbhmdaaLibJ
namespace Go.WX
open Go

def azOf (P : Program) (t : TypeId) : Option (List Value) :=
  match P.info? t, P.underlying t with
  | some it, some (.array _ e) =>
    match it.zero, P.info? e with
    | some z, some _ => some z.cells.toList
    | _, _ => none
  | _, _ => none

section
variable {P : Program} {n : Nat} {σ : Fr} {b w : World} {x y : Operand} {v : Value} {dst : Option Nat} {d : Nat} {ty : TypeId} {pos : String} {af : Array Edge} {gd : Option (Nat × Bool)} {t e : TypeId} {k m s : Nat} {p : Addr} {cs : List Value} {K : Fr → World → Prop} {α : Type}

theorem azOf_spec {l : List Value} (h : azOf P t = some l) : ∃ it z ln e ie, P.info? t = some it ∧ P.underlying t = some (.array ln e) ∧ it.zero = some z ∧ P.info? e = some ie ∧ z.cells = l.toArray := by
  unfold azOf at h
  split at h
  · rename_i it ln e h1 h2
    split at h
    · rename_i z ie h3 h4
      simp only [Option.some.injEq] at h
      exact ⟨it, z, ln, e, ie, h1, h2, h3, h4, by rw [← h]⟩
    · simp at h
  · simp at h
theorem PV.buildArr {f : α → Value} {x0 : α} (ht : azOf P t = some (List.replicate m (f x0))) : PV P n σ w ⟨dst, .build t #[], ty, pos, af, gd⟩ (.agg ((List.replicate m x0).map f).toArray) := fun a ha => by
  obtain ⟨it, z, ln, e, ie, h1, h2, h3, h4, h5⟩ := azOf_spec ht
  have h6 : P.built t [] = some ((List.replicate m x0).map f).toArray := by
    unfold Program.built
    simp only [h1, h2, h3, h4, Instr.fill, h5, List.map_replicate]
  have := run_build w t #[] _ (by simpa using h6)
  simp [execOp, this]
theorem OpK.allocArr {f : α → Value} {x0 : α} (hb : Nat.blt d n = true) (ht : azOf P t = some (List.replicate m (f x0)))
    (hk : ∀ p w', Ext w w' → Bx w' p ((List.replicate m x0).map f) → w.heap.size ≤ p.block → K ((d, .pointer (some p)) :: σ) w') : OpK P n ⟨some d, .alloc t, ty, pos, af, gd⟩ σ w K := by
  obtain ⟨it, z, ln, e, ie, h1, h2, h3, h4, h5⟩ := azOf_spec ht
  exact .alloc hb (z := z) (by simp [zvOf, h1, h3]) (cs := (List.replicate m x0).map f) (by rw [h5, List.map_replicate]) hk
theorem OpK.boxArr {f : α → Value} {xs : List α} (hb : Nat.blt d n = true) (hx : ev σ x = some (.agg (xs.map f).toArray))
    (hk : ∀ p w', Ext w w' → Bx w' p (xs.map f) → w.heap.size ≤ p.block → K ((d, .pointer (some p)) :: σ) w') : OpK P n ⟨some d, .box t x, ty, pos, af, gd⟩ σ w K :=
  .box hb hx rfl hk
theorem OpK.storeArrA {f : α → Value} {xs ys : List α} (hm : szOf P t = some m) (hx : ev σ x = some (.pointer (some p))) (hy : ev σ y = some (.agg (xs.map f).toArray)) (hl : xs.length = m) (ho : ys.length = m) (h1 : ∀ x, (f x).oneCell' = true) (hb : Bx w p (ys.map f))
    (hK : ∀ w', Upd (some p.block) w w' → Bx w' p (xs.map f) → K σ w') : OpK P n ⟨none, .store t x y, ty, pos, af, gd⟩ σ w K :=
  .storeA hm hx hy (by simpa using hl) (by simpa using ho) (fun v hv => by obtain ⟨x, _, rfl⟩ := List.mem_map.1 hv; exact h1 x) hb hK
/-- A store into an array. -/
theorem OpK.storeArr {f : α → Value} {xs : List α} {u : α} (hs : szOf P t = some 1) (hx : ev σ x = some (.pointer (some (padd p k)))) (hy : ev σ y = some (f u)) (hu : (f u).oneCell' = true) (hb : Bx w p (xs.map f)) (hk : k < xs.length)
    (hK : ∀ w', Upd (some p.block) w w' → Bx w' p ((xs.set k u).map f) → K σ w') : OpK P n ⟨none, .store t x y, ty, pos, af, gd⟩ σ w K :=
  .storeB hs hx hy hu hb (by simpa using hk) (fun w' h1 h2 => hK w' h1 (by rw [List.map_set]; exact h2))
theorem PV.loadArr {f : α → Value} {xs : List α} (d0 : α) (ht : naOf P t = true) (hx : ev σ x = some (.pointer (some (padd p k)))) (hc : Cells b p (xs.map f)) (he : Ext b w) (hk : k < xs.length) : PV P n σ w ⟨dst, .load t x, ty, pos, af, gd⟩ (f (xs.getD k d0)) :=
  PV.load1 ht hx hc he (by simp [hk])
/-- The address of an element, from the array's own address; the index is a natural number. -/
theorem PV.ixN {kk : IntKind} {i l e : Nat} (ht : arOf P t = some (l, e, s)) (hx : ev σ x = some (.pointer (some p))) (hsp : p.spot = none) (hy : ev σ y = some (.int kk (i : Int))) (h1 : i < l) : PV P n σ w ⟨dst, .indexAddr t x y, ty, pos, af, gd⟩ (.pointer (some (padd p (i * s)))) := by
  have := PV.indexArr (dst := dst) (ty := ty) (pos := pos) (af := af) (gd := gd) (n := n) (w := w) ht hx hsp hy (by omega) (by omega)
  simpa using this
theorem PV.ixZ {kk : IntKind} {z : Int} {l e : Nat} (ht : arOf P t = some (l, e, s)) (hx : ev σ x = some (.pointer (some p))) (hsp : p.spot = none) (hy : ev σ y = some (.int kk z)) (h1 : 0 ≤ z ∧ z < l) : PV P n σ w ⟨dst, .indexAddr t x y, ty, pos, af, gd⟩ (.pointer (some (padd p (z.toNat * s)))) :=
  PV.indexArr ht hx hsp hy h1.1 h1.2
theorem PV.ixPN {kk : IntKind} {i l e : Nat} (ht : arOf P t = some (l, e, s)) (hx : ev σ x = some (.pointer (some (padd p k)))) (hy : ev σ y = some (.int kk (i : Int))) (h1 : i < l) : PV P n σ w ⟨dst, .indexAddr t x y, ty, pos, af, gd⟩ (.pointer (some (padd p (k + i * s)))) := by
  have := PV.ixN (dst := dst) (ty := ty) (pos := pos) (af := af) (gd := gd) (n := n) (w := w) ht hx rfl hy h1
  rwa [padd_padd] at this
theorem PV.ixPN1 {kk : IntKind} {i l e : Nat} (ht : arOf P t = some (l, e, 1)) (hx : ev σ x = some (.pointer (some (padd p k)))) (hy : ev σ y = some (.int kk (i : Int))) (h1 : i < l) : PV P n σ w ⟨dst, .indexAddr t x y, ty, pos, af, gd⟩ (.pointer (some (padd p (k + i)))) := by
  have := PV.ixPN (dst := dst) (ty := ty) (pos := pos) (af := af) (gd := gd) (n := n) (w := w) ht hx hy h1
  rwa [Nat.mul_one] at this
theorem PV.ixPZ {kk : IntKind} {z : Int} {l e : Nat} (ht : arOf P t = some (l, e, s)) (hx : ev σ x = some (.pointer (some (padd p k)))) (hy : ev σ y = some (.int kk z)) (h1 : 0 ≤ z ∧ z < l) : PV P n σ w ⟨dst, .indexAddr t x y, ty, pos, af, gd⟩ (.pointer (some (padd p (k + z.toNat * s)))) := by
  have := PV.ixZ (dst := dst) (ty := ty) (pos := pos) (af := af) (gd := gd) (n := n) (w := w) ht hx rfl hy h1
  rwa [padd_padd] at this
theorem PV.ixPZ1 {kk : IntKind} {z : Int} {l e : Nat} (ht : arOf P t = some (l, e, 1)) (hx : ev σ x = some (.pointer (some (padd p k)))) (hy : ev σ y = some (.int kk z)) (h1 : 0 ≤ z ∧ z < l) : PV P n σ w ⟨dst, .indexAddr t x y, ty, pos, af, gd⟩ (.pointer (some (padd p (k + z.toNat)))) := by
  have := PV.ixPZ (dst := dst) (ty := ty) (pos := pos) (af := af) (gd := gd) (n := n) (w := w) ht hx hy h1
  rwa [Nat.mul_one] at this
end
theorem bxM {α : Type} {f : α → Value} {w : World} {p : Addr} {xs ys : List α} (h : Bx w p (xs.map f)) (e : xs = ys) : Bx w p (ys.map f) := e ▸ h
end Go.WX
