/- Keys of maps that are arrays of numbers; lists of a bounded length, laid into such arrays. No condition. -/
import Derived.Test.YthemmoceomdccaaLibMp
import Derived.ChangeKeysEq
import Derived.Test.YthemmoceomdccaaLibR
namespace Go.WX
open Go

abbrev KA (N : Nat) := {xs : List Int // xs.length = N}
@[reducible] def VKA {N : Nat} (a : KA N) : Value := .agg (a.1.map VI).toArray
section
variable {P : Program} {t e : TypeId} {N : Nat}
theorem eqItems_ints (he : ikOf P e = some .i64) (d : Nat) (xs ys : List Int) (w : World) : ∀ is : List Nat, (∀ i ∈ is, i < xs.length ∧ i < ys.length) →
    (Op.eqItems (d + 1) e 1 (xs.map VI).toArray (ys.map VI).toArray is).run P w = .ok (is.all fun i => decide (xs.getD i 0 = ys.getD i 0)) w
  | [], _ => by simp [Op.eqItems]
  | i :: r, h => by
    obtain ⟨h1, h2⟩ := h i List.mem_cons_self
    have hx : (xs.map VI).toArray[i * 1]? = some (VI (xs.getD i 0)) := by simp [List.getD_eq_getElem?_getD, h1]
    have hy : (ys.map VI).toArray[i * 1]? = some (VI (ys.getD i 0)) := by simp [List.getD_eq_getElem?_getD, h2]
    have p1 := ik_part (P := P) (t := e) (by simpa using he) _ _ _ hx w
    have p2 := ik_part (P := P) (t := e) (by simpa using he) _ _ _ hy w
    have p3 : (Op.equalIn (d + 1) e (VI (xs.getD i 0)) (VI (ys.getD i 0))).run P w = .ok (xs.getD i 0 == ys.getD i 0) w := run_equalIn_int (P := P) w d e .i64 .i64 _ _ (ikOf_spec he)
    have ih := eqItems_ints he d xs ys w r (fun j hj => h j (List.mem_cons_of_mem _ hj))
    simp only [Op.eqItems, Sem.run_bind, p1, p2, p3, Result.andThen_ok, List.all_cons]
    by_cases q : xs.getD i 0 = ys.getD i 0
    · simp only [q, beq_self_eq_true, Bool.not_true, Bool.false_eq_true, if_false, decide_true, Bool.true_and]; exact ih
    · have q2 : (xs.getD i 0 == ys.getD i 0) = false := by simpa using q
      simp only [q2, Bool.not_false, if_true, decide_eq_false q, Bool.false_and, Sem.run_pure]
theorem all_eq (xs ys : List Int) (hx : xs.length = N) (hy : ys.length = N) : ((List.range N).all fun i => decide (xs.getD i 0 = ys.getD i 0)) = decide (xs = ys) := by
  rw [Bool.eq_iff_iff, List.all_eq_true, decide_eq_true_eq]
  constructor
  · intro h
    refine List.ext_getElem (by omega) fun i h1 h2 => ?_
    have := h i (List.mem_range.2 (by omega))
    simpa [List.getD_eq_getElem?_getD, h1, h2] using this
  · rintro rfl i _
    simp
theorem check_items (he : ikOf P e = some .i64) (hs : szOf P e = some 1) (em : Bool) (n : Nat) (xs : List Int) (w : World) : ∀ is : List Nat, (∀ i ∈ is, i < xs.length) →
    (forIn (m := Sem) is PUnit.unit (fun i (_ : PUnit) => do
      Instr.checkKey em (n + 1) e (← part e (xs.map VI).toArray (i * (← sizeOf e)))
      pure (ForInStep.yield PUnit.unit))).run P w = .ok PUnit.unit w
  | [], _ => by simp
  | i :: r, h => by
    have h1 := h i List.mem_cons_self
    have hx : (xs.map VI).toArray[i * 1]? = some (VI (xs.getD i 0)) := by simp [List.getD_eq_getElem?_getD, h1]
    have p1 := ik_part (P := P) (t := e) (by simpa using he) _ _ _ hx w
    have p2 := check_int (P := P) he em n (xs.getD i 0) w
    have ih := check_items he hs em n xs w r (fun j hj => h j (List.mem_cons_of_mem _ hj))
    simp only [List.forIn_cons, Sem.run_bind, szOf_run hs, Result.andThen_ok, p1, p2, Sem.run_pure]
    exact ih
theorem keyA (ht : arOf P t = some (N, e, 1)) (he : ikOf P e = some .i64) : KeyF P t (VKA (N := N)) := by
  obtain ⟨hu, hs⟩ := arOf_spec ht
  refine ⟨by rw [hu], fun em a w => ?_, fun a b w => ?_⟩
  · obtain ⟨xs, hx⟩ := a
    subst hx
    show (Instr.checkKey em (9999 + 1) t (.agg (xs.map VI).toArray)).run P w = _
    rw [Instr.checkKey]
    simp only [Sem.run_bind, run_underlying hu, Result.andThen_ok, Std.Legacy.Range.forIn_eq_forIn_range', Std.Legacy.Range.size, Nat.sub_zero, Nat.add_one_sub_one, Nat.div_one]
    have h := check_items (P := P) he hs em 9998 xs w (List.range' 0 xs.length) (fun i hi => by
      rw [← List.range_eq_range'] at hi; exact List.mem_range.1 hi)
    simp at h ⊢
    rw [h]; rfl
  · obtain ⟨xs, hx⟩ := a; obtain ⟨ys, hy⟩ := b
    have hi : ∃ i, P.info? e = some i ∧ i.size = 1 := by
      unfold szOf at hs
      cases h : P.info? e with
      | none => rw [h] at hs; cases hs
      | some i => rw [h] at hs; exact ⟨i, rfl, by simpa using hs⟩
    obtain ⟨i, hi, hi1⟩ := hi
    have hc : P.cellsOf e = 1 := by simp [Program.cellsOf, hi, hi1]
    show (Op.equalIn (9999 + 1) t (.agg (xs.map VI).toArray) (.agg (ys.map VI).toArray)).run P w = _
    rw [run_equalIn_array w 9999 _ _ hu hi, hc, eqItems_ints he 9998 xs ys w _ (fun j hj => by have := List.mem_range.1 hj; omega), all_eq xs ys hx hy]
    congr 1
    exact decide_eq_decide.2 ⟨fun h => by subst h; rfl, fun h => congrArg Subtype.val h⟩
end

/-! ### Lists laid into arrays of 33 -/
def padA (xs : List Int) : KA 33 := ⟨(xs ++ List.replicate 33 0).take 33, by rw [List.length_take, List.length_append, List.length_replicate]; omega⟩
theorem padA_eq {xs : List Int} (h : xs.length ≤ 33) : (padA xs).1 = xs ++ List.replicate (33 - xs.length) 0 := by
  show (xs ++ List.replicate 33 0).take 33 = _
  rw [List.take_append, List.take_of_length_le h, List.take_replicate]
  congr 2; omega
theorem padA_inj {xs ys : List Int} (h : xs.length ≤ 33) (e : xs.length = ys.length) (g : padA xs = padA ys) : xs = ys := by
  have h1 := congrArg Subtype.val g
  rw [padA_eq h, padA_eq (by omega)] at h1
  exact (List.append_inj h1 e).1
theorem padA_set {xs : List Int} {u v : Int} {i j : Nat} (h : xs.length + 2 ≤ 33) (hi : i = xs.length) (hj : j = xs.length + 1) : ((padA xs).1.set i u).set j v = (padA (xs ++ [u, v])).1 := by
  subst hi; subst hj
  rw [padA_eq (by omega), padA_eq (by simp; omega)]
  obtain ⟨n, hn⟩ : ∃ n, 33 - xs.length = n + 2 := ⟨31 - xs.length, by omega⟩
  have h2 : 33 - (xs ++ [u, v]).length = n := by simp; omega
  rw [hn, h2, List.set_append_right _ _ (Nat.le_refl _), Nat.sub_self, List.set_append_right _ _ (by omega), show xs.length + 1 - xs.length = 1 by omega, List.append_assoc]
  rfl
/-- The names of some keys, in order. -/
def ixK (ks : List (List Int)) (k : List Int) : Nat := ks.findIdx fun y => decide (y = k)
def mapK (ks : List (List Int)) : List (KA 33 × Int) := ks.zipIdx.map fun x => (padA x.1, (x.2 : Int))
theorem mapK_len (ks : List (List Int)) : (mapK ks).length = ks.length := by simp [mapK]
theorem mapK_put (ks : List (List Int)) (k : List Int) : mapK (ks ++ [k]) = mapK ks ++ [(padA k, (ks.length : Int))] := by simp [mapK, List.zipIdx_append]
theorem ixK_le (ks : List (List Int)) (k : List Int) : ixK ks k ≤ ks.length := List.findIdx_le_length
theorem mapK_get {ks : List (List Int)} {k : List Int} (hk : k.length ≤ 33) (hl : ∀ y ∈ ks, y.length = k.length) : mpGet (mapK ks) (padA k) = if ixK ks k < ks.length then some (ixK ks k : Int) else none := by
  have key : ∀ (ks : List (List Int)) (b : Nat), (∀ y ∈ ks, y.length = k.length) → ((ks.zipIdx b).map fun x => (padA x.1, (x.2 : Int))).find? (fun x => decide (padA k = x.1)) = if ixK ks k < ks.length then some (padA k, ((b + ixK ks k : Nat) : Int)) else none := by
    intro ks
    induction ks with
    | nil => intro b _; simp
    | cons y r ih =>
      intro b hl
      have h1 := hl y List.mem_cons_self
      rw [List.zipIdx_cons, List.map_cons]
      by_cases e : y = k
      · subst e
        rw [List.find?_cons_of_pos (by simp)]
        have : ixK (y :: r) y = 0 := by simp [ixK, List.findIdx_cons]
        rw [this, if_pos (by simp)]; simp
      · have hne : ¬ padA k = padA y := fun g => e (padA_inj (by omega) h1 g.symm)
        rw [List.find?_cons_of_neg (by simpa using hne), ih (b + 1) (fun z hz => hl z (List.mem_cons_of_mem _ hz))]
        have : ixK (y :: r) k = ixK r k + 1 := by simp [ixK, List.findIdx_cons, e]
        rw [this, List.length_cons]
        by_cases q : ixK r k < r.length
        · rw [if_pos q, if_pos (by omega)]; congr 2; simp; omega
        · rw [if_neg q, if_neg (by omega)]
  unfold mpGet mapK
  rw [key ks 0 hl]
  by_cases q : ixK ks k < ks.length
  · rw [if_pos q, if_pos q]; simp
  · rw [if_neg q, if_neg q]; rfl

section
variable {P : Program} {n : Nat} {σ : Fr} {w : World} {x : Operand} {dst : Option Tmp} {ty : TypeId} {pos : String} {af : Array Edge} {gd : Option (Nat × Bool)} {t e : TypeId} {α : Type} {f : α → Value} {x0 u : α} {m : Nat}
/-- An array whose first element is written out. -/
theorem PV.buildArr1 (ht : azOf P t = some (List.replicate m (f x0))) (ha : arOf P t = some (m, e, 1)) (hx : ev σ x = some (f u)) (hc : (f u).cells = #[f u]) (hm : Nat.blt 0 m = true) :
    PV P n σ w ⟨dst, .build t #[(0, x)], ty, pos, af, gd⟩ (.agg (((List.replicate m x0).set 0 u).map f).toArray) := fun a hA => by
  obtain ⟨it, z, ln, e', ie, h1, h2, h3, h4, h5⟩ := azOf_spec ht
  obtain ⟨h6, h7⟩ := arOf_spec ha
  rw [h2] at h6; cases h6
  have hie : ie.size = 1 := by unfold szOf at h7; rw [h4] at h7; simpa using h7
  have hm : 0 < m := by simpa using hm
  have hb : P.built t [(0, f u)] = some (((List.replicate m x0).set 0 u).map f).toArray := by
    unfold Program.built
    simp only [h1, h2, h3, h4, Instr.fill, h5, hie, hc]
    simp [hm, Nat.not_lt.2 (show 1 ≤ m from hm), List.map_set, Array.zipIdx]
    rw [← List.toArray_replicate, List.setIfInBounds_toArray]
  have := run_build w t #[(0, f u)] _ (by simpa using hb)
  simp [execOp, hA.eval hx, this]
end
theorem padA_one (u : Int) : (List.replicate 33 (0 : Int)).set 0 u = (padA [u]).1 := rfl
end Go.WX
