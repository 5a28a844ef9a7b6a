/- Slices of slices, 'copy', and calls of function values. No condition. -/
import Derived.Test.YthemmoceomdccaaLibL
namespace Go.WX
open Go

/-- The slice of v from l to h. -/
def slV (s : Nat) (v : Value) (l h : Nat) : Value := match v with
  | .slice a _ cap => sliced a l h cap s
  | u => u

section
variable {α : Type} {E : Enc α} {b w : World} {v : Value} {xs : List α}

theorem Rd.slV (hr : Rd E b v xs) {l h : Nat} (h1 : l ≤ h) (h2 : h ≤ xs.length) : Rd E b (slV E.size v l h) ((xs.take h).drop l) := by
  have hlen : ((xs.take h).drop l).length = h - l := by simp; omega
  refine ⟨by have := hr.1; omega, ?_⟩
  rcases hr.2 with ⟨rfl, rfl⟩ | ⟨a, cap, rfl, h4, h5⟩
  · simp at h2; subst h2
    have : l = 0 := by omega
    subst this
    exact .inl ⟨rfl, by simp⟩
  · by_cases hc : cap = l
    · have e0 : h - l = 0 := by omega
      refine .inr ⟨a, cap - l, ?_, by omega, fun i x hx => ?_⟩
      · simp [WX.slV, sliced, hc, hlen]
      · have : i < ((xs.take h).drop l).length := by
          rcases Nat.lt_or_ge i ((xs.take h).drop l).length with q | q
          · exact q
          · rw [List.getElem?_eq_none q] at hx; cases hx
        omega
    · refine .inr ⟨a.add (l * E.size), cap - l, ?_, by omega, fun i x hx => ?_⟩
      · simp [WX.slV, sliced, hc, hlen]
      · rw [List.getElem?_drop, List.getElem?_take] at hx
        split at hx
        · obtain ⟨k1, cs, k2, k3⟩ := h5 (l + i) x hx
          rw [add_padd k1]
          refine ⟨rfl, cs, k2, ?_⟩
          rw [padd_padd, ← Nat.add_mul]; exact k3
        · cases hx
theorem Rd.take (hr : Rd E b v xs) {h : Nat} (h2 : h ≤ xs.length) : Rd E b (WX.slV E.size v 0 h) (xs.take h) := by
  have := hr.slV (l := 0) (h := h) (by omega) h2
  simpa using this
theorem Rd.drop (hr : Rd E b v xs) {l : Nat} (h2 : l ≤ xs.length) : Rd E b (WX.slV E.size v l xs.length) (xs.drop l) := by
  have := hr.slV (l := l) (h := xs.length) h2 (Nat.le_refl _)
  simpa using this
end

section
variable {w : World} {og : Option Nat} {v : Value} {s : Nat} {cs : List Value}
theorem Ow.take (ho : Ow w og s v cs) (hs : 0 < s) {h : Nat} (h2 : h * s ≤ cs.length) : Ow w og s (slV s v 0 h) (cs.take (h * s)) := by
  rcases ho with ⟨rfl, rfl, rfl⟩ | ⟨g, l, cap, cur, e, rfl, rfl, h3, h4, h5, h6, h7, h8⟩
  · have : h = 0 := by
      rcases Nat.eq_zero_or_pos h with e | e
      · exact e
      · have h3 := Nat.mul_pos e hs
        rw [List.length_nil] at h2; omega
    subst this
    exact .inl ⟨rfl, rfl, by simp⟩
  · have hl : h ≤ l := by rw [h4] at h2; exact Nat.le_of_mul_le_mul_right h2 hs
    refine .inr ⟨g, h, cap, cur, e, rfl, ?_, h3, ?_, ?_, h6, by omega, h8⟩
    · have ea : (⟨g, 0, none⟩ : Addr).add 0 = ⟨g, 0, none⟩ := rfl
      by_cases hc : cap = 0 <;> simp [slV, sliced, hc, ea]
    · rw [List.length_take]; omega
    · rw [← h5, List.take_take]; congr 1; rw [Nat.min_eq_left]; exact Nat.mul_le_mul_right _ hl
end
section
variable {α : Type} {f : α → Value} {g : α → List Value} {w : World} {og : Option Nat} {v : Value} {s : Nat} {xs : List α}
theorem Osl.take (ho : Osl f w og v xs) {h : Nat} (h2 : h ≤ xs.length) : Osl f w og (slV 1 v 0 h) (xs.take h) := by
  have := Ow.take (s := 1) ho (by decide) (h := h) (by simpa using h2)
  unfold Osl; rw [List.map_take]; simpa using this
end

section
variable {P : Program} {n : Nat} {σ : Fr} {b w : World} {x lo hi : Operand} {v : Value} {dst : Option Tmp} {ty : TypeId} {pos : String} {af : Array Edge} {gd : Option (Nat × Bool)} {t e s yy : Nat} {kl kh : IntKind}
theorem sl_und (ht : slOf P t = some (e, s, yy)) : P.underlying t = some (.slice (P.elem t)) ∧ ∀ w, (sizeOf (P.elem t)).run P w = .ok s w := by
  obtain ⟨h1, i, h2, h3, h4⟩ := slOf_spec ht
  have : P.elem t = e := by simp [Program.elem, h1]
  rw [this]
  exact ⟨h1, fun w => by simp [sizeOf, typeInfo, h2, h3]⟩
/-- v is a slice of n elements. -/
def IsSl (v : Value) (n : Nat) : Prop := ∃ o cap, v = .slice o n cap ∧ n ≤ cap
theorem Rd.isSl {α : Type} {E : Enc α} {xs : List α} (h : Rd E b v xs) : IsSl v xs.length := h.shape
theorem Osl.isSl {α : Type} {f : α → Value} {og : Option Nat} {xs : List α} (h : Osl f b og v xs) : IsSl v xs.length := h.rd.shape
theorem PV.sliceLH {l h : Int} {m : Nat} (ht : slOf P t = some (e, s, yy)) (hx : ev σ x = some v) (hl : ev σ lo = some (.int kl l)) (hh : ev σ hi = some (.int kh h)) (hv : IsSl v m) (hb : 0 ≤ l ∧ l ≤ h ∧ h ≤ m) :
    PV P n σ w ⟨dst, .slice t x (some lo) (some hi) none, ty, pos, af, gd⟩ (slV s v l.toNat h.toNat) := fun a ha => by
  obtain ⟨o, cap, rfl, hc⟩ := hv
  obtain ⟨h1, h2⟩ := sl_und ht
  simp [execOp, ha.eval hx, ha.eval hl, ha.eval hh, run_sliceAt_slice w t _ _ _ _ h1, run_slice_lh w t o m cap h1 kl kh l h hb.1 hb.2.1 (by omega), h2, slV]
theorem PV.sliceH {h : Int} {m : Nat} (ht : slOf P t = some (e, s, yy)) (hx : ev σ x = some v) (hh : ev σ hi = some (.int kh h)) (hv : IsSl v m) (hb : 0 ≤ h ∧ h ≤ m) :
    PV P n σ w ⟨dst, .slice t x none (some hi) none, ty, pos, af, gd⟩ (slV s v 0 h.toNat) := fun a ha => by
  obtain ⟨o, cap, rfl, hc⟩ := hv
  obtain ⟨h1, h2⟩ := sl_und ht
  simp [execOp, ha.eval hx, ha.eval hh, run_sliceAt_slice w t _ _ _ _ h1, run_slice_h w t o m cap h1 kh h hb.1 (by omega), h2, slV]
theorem PV.sliceL {l : Int} {m : Nat} (ht : slOf P t = some (e, s, yy)) (hx : ev σ x = some v) (hl : ev σ lo = some (.int kl l)) (hv : IsSl v m) (hb : 0 ≤ l ∧ l ≤ m) :
    PV P n σ w ⟨dst, .slice t x (some lo) none none, ty, pos, af, gd⟩ (slV s v l.toNat m) := fun a ha => by
  obtain ⟨o, cap, rfl, hc⟩ := hv
  obtain ⟨h1, h2⟩ := sl_und ht
  simp [execOp, ha.eval hx, ha.eval hl, run_sliceAt_slice w t _ _ _ _ h1, run_slice_l w t o m cap h1 kl l hb.1 (by omega), h2, slV]
end

section
variable {P : Program} {n : Nat} {σ : Fr} {w : World} {x y : Operand} {v xv : Value} {d : Nat} {ty : TypeId} {pos : String} {af : Array Edge} {gd : Option (Nat × Bool)} {t e yy : Nat} {K : Fr → World → Prop} {α : Type} {f : α → Value} {og : Option Nat} {xs ys : List α}
/-- 'copy' into an owned slice from place l on. -/
theorem OpK.copyS {l m : Nat} (hb : Nat.blt d n = true) (ht : slOf P t = some (e, 1, yy)) (hx : ev σ x = some (slV 1 v l xs.length)) (hl : l ≤ xs.length) (ho : Osl f w og v xs) (hy : ev σ y = some xv) (hsrc : Src w 1 xv (ys.map f)) (hm : m = min ys.length (xs.length - l))
    (hk : ∀ w', Upd og w w' → Osl f w' og v (xs.take l ++ ys.take m ++ xs.drop (l + m)) → K ((d, .int .i64 (m : Int)) :: σ) w') :
    OpK P n ⟨some d, .call ⟨.builtin .copy, #[x, y], #[t, t]⟩, ty, pos, af, gd⟩ σ w K := by
  obtain ⟨h1, i, h2, h3, h4⟩ := slOf_spec ht
  have hq : (P.info? e).map (·.size) = some 1 := by simp [h2, h3]
  obtain ⟨ls, hls, hxx, h1c⟩ := hsrc
  have hls : ys.length = ls := by simpa using hls
  subst hls
  have hfin : ∀ w' r, (Builtin.copy_ #[t, t] ty #[slV 1 v l xs.length, xv]).run P w = .ok r w' → r = .int .i64 (m : Int) → Upd og w w' → Osl f w' og v (xs.take l ++ ys.take m ++ xs.drop (l + m)) → OpK P n ⟨some d, .call ⟨.builtin .copy, #[x, y], #[t, t]⟩, ty, pos, af, gd⟩ σ w K := fun w' r hr he hu hos => by
    subst he
    exact .val rfl hb (fun a ha => by simp [execOp, resolve, invoke, builtin, ha.eval hx, ha.eval hy, hr]) (hk w' hu hos)
  have hv : IsSl v xs.length := ho.isSl
  by_cases hm0 : m = 0
  · subst hm0
    obtain ⟨o, cap, rfl, hc⟩ := hv
    have hr : (Builtin.copy_ #[t, t] ty #[slV 1 (.slice o xs.length cap) l xs.length, xv]).run P w = .ok (goInt 0) w := by
      rcases hxx with ⟨rfl, hy0⟩ | ⟨a, c, rfl, _⟩
      · exact run_copy_none w t t ty e _ _ _ _ _ _ h1 hq (by simp)
      · exact run_copy_none w t t ty e _ _ _ _ _ _ h1 hq (by show min ys.length (xs.length - l) = 0; omega)
    exact hfin w _ hr rfl (Ext.toUpd (Ext.refl w)) (by simpa using ho)
  · have hne : 0 < ys.length ∧ 0 < xs.length - l := by omega
    have ho' := ho
    rcases ho with ⟨_, _, h⟩ | ⟨g, ll, cap, cur, ee, rfl, rfl, k3, k4, k5, k6, k7, k8⟩
    · have : xs = [] := by simpa using h
      subst this; simp at hne
    have hll : ll = xs.length := by simpa using k4.symm
    subst hll
    have hca : cap ≠ l := by omega
    have hdv : slV 1 (.slice (some ⟨g, 0, none⟩) xs.length cap) l xs.length = .slice (some ⟨g, l, none⟩) (xs.length - l) (cap - l) := by
      have : (⟨g, 0, none⟩ : Addr).add (l * 1) = ⟨g, l, none⟩ := by simp [Addr.add]; omega
      simp only [slV, sliced, if_neg hca, Option.map_some, this]
    rcases hxx with ⟨rfl, hy0⟩ | ⟨a, c, rfl, hc⟩
    · omega
    have hll : (ys.take m).length = m := by simp; omega
    have hcs : ((ys.take m).map f).length = m := by rw [List.length_map, hll]
    have hsz : cur.size = cap := by simpa using k6
    have hld := run_loadCells_list (P := P) w a ((ys.take m).map f) (fun j u hj => hc j u (by
      rw [List.map_take, List.getElem?_take] at hj
      split at hj
      · exact hj
      · cases hj))
    have hst := run_storeCells_at P g l ee ((ys.take m).map f) 0 cur w k3 (by rw [List.length_map, hll]; omega) (fun u hu => h1c u (by
      obtain ⟨z, hz, rfl⟩ := List.mem_map.1 hu
      exact List.mem_map.2 ⟨z, List.mem_of_mem_take hz, rfl⟩))
    simp only [Nat.add_zero] at hst
    rw [List.length_map, hll] at hst hld
    have hmn : Nat.min ys.length (xs.length - l) = m := hm.symm
    have hr : (Builtin.copy_ #[t, t] ty #[slV 1 (.slice (some ⟨g, 0, none⟩) xs.length cap) l xs.length, .slice (some a) ys.length c]).run P w = .ok (goInt m) (w.setRow g (cur.toList.take l ++ (ys.take m).map f ++ cur.toList.drop (l + m)).toArray) := by
      rw [hdv]
      simp only [List.map_take, List.append_assoc] at hst hld ⊢
      simp [Builtin.copy_, run_underlying h1, Builtin.lenOf, Builtin.firstCells, sizeOf, typeInfo, h2, h3, hmn, hld, hst]
    refine hfin _ _ hr rfl (Upd.setRow _ _ _) (.inr ⟨g, xs.length, cap, _, ee, rfl, rfl, setRow_heap w g cur _ ee _ k3, ?_, ?_, ?_, k7, k8⟩)
    · simp; omega
    · simp only [Nat.mul_one] at k5 ⊢
      have e1 : cur.toList = xs.map f ++ cur.toList.drop xs.length := by
        conv => lhs; rw [← List.take_append_drop xs.length cur.toList, k5]
      rw [e1]
      simp only [List.map_append, List.map_take, List.map_drop]
      have hlx : (xs.map f).length = xs.length := List.length_map _
      have hmy : ((ys.map f).take m).length = m := by simp; omega
      have hlx2 : ((xs.map f).take l).length = l := by simp; omega
      have e2 : (xs.map f ++ cur.toList.drop xs.length).take l = (xs.map f).take l := List.take_append_of_le_length (by rw [hlx]; exact hl)
      have e3 : (xs.map f ++ cur.toList.drop xs.length).drop (l + m) = (xs.map f).drop (l + m) ++ cur.toList.drop xs.length := List.drop_append_of_le_length (by rw [hlx]; omega)
      rw [e2, e3, ← List.append_assoc]
      rw [List.take_append_of_le_length (by simp only [List.length_append, List.length_drop, hlx, hmy, hlx2]; omega), List.take_of_length_le (by simp only [List.length_append, List.length_drop, hlx, hmy, hlx2]; omega)]
    · simp; omega
/-- A call of a function value, its number known. -/
theorem OpK.callV {f : FuncId} {xs : List Operand} {vs us : List Value} {tt : Array TypeId} {t : Nat} (hb : Nat.blt d n = true) (hf : cfOf P f = true) (ht : look t σ = some (.func (.func f) #[] us.toArray)) (hx : evs σ xs = some vs) (hc : Calls P f (vs ++ us).toArray w (Ret1 (RQt v w))) (hk : ∀ w', Ext w w' → K ((d, v) :: σ) w') :
    OpK P n ⟨some d, .call ⟨.value (.tmp t), xs.toArray, tt⟩, ty, pos, af, gd⟩ σ w K :=
  .callC hb hf ht hx hc (fun v w' h => by obtain ⟨rfl, h⟩ := h; exact hk w' h)
end
/-! ### The operations, with a name for what they yield -/
theorem slV_zero {v : Value} {m : Nat} (h : IsSl v m) : slV 1 v 0 m = v := by
  obtain ⟨o, cap, rfl, hc⟩ := h
  by_cases h0 : cap = 0
  · subst h0
    have : m = 0 := by omega
    subst this; simp [slV, sliced]
  · cases o with
    | none => simp [slV, sliced]
    | some a =>
      have : a.add 0 = a := by simp [Addr.add]
      simp [slV, sliced, h0, this]
section
variable {P : Program} {n : Nat} {σ : Fr} {b w : World} {x lo hi : Operand} {v : Value} {ops : Array Oper} {Q : Exit → Act → World → Prop} {l : List Oper} {S : World → Prop} {L : Nat} {r : Pl} {t e s yy : Nat} {kl kh : IntKind} {α : Type} {E : Enc α} {f : α → Value} {g : α → List Value} {og : Option Nat} {xs : List α} {i j : Int}
theorem WL.slO (ht : slOf P t = some (e, 1, yy)) (hx : ev σ x = some v) (hh : ev σ hi = some (.int kh j)) (_u : ev σ hi = some (.int kh j)) (ho : Osl f w og v xs) (hb : 0 ≤ j ∧ j ≤ xs.length)
    (K : ∀ u, (∀ (dst : Option Tmp) (ty : TypeId) (pos : String) (af : Array Edge) (gd : Option (Nat × Bool)) (w : World), PV P n σ w ⟨dst, .slice t x none (some hi) none, ty, pos, af, gd⟩ u) → Osl f w og u (xs.take j.toNat) → WL P n ops Q l σ w) : WL P n ops Q l σ w :=
  K _ (fun _ _ _ _ _ _ => PV.sliceH ht hx hh ho.isSl (by omega)) (ho.take (by omega))
theorem WL.slOL (ht : slOf P t = some (e, 1, yy)) (hx : ev σ x = some v) (hh : ev σ lo = some (.int kl i)) (_u : ev σ lo = some (.int kl i)) (ho : Osl f w og v xs) (hb : 0 ≤ i ∧ i ≤ xs.length)
    (K : ∀ u, (∀ (dst : Option Tmp) (ty : TypeId) (pos : String) (af : Array Edge) (gd : Option (Nat × Bool)) (w : World), PV P n σ w ⟨dst, .slice t x (some lo) none none, ty, pos, af, gd⟩ u) → slV 1 v i.toNat xs.length = u → WL P n ops Q l σ w) : WL P n ops Q l σ w :=
  K _ (fun _ _ _ _ _ _ => PV.sliceL ht hx hh ho.isSl (by omega)) rfl
theorem WL.slRH (ht : slOf P t = some (e, E.size, yy)) (hx : ev σ x = some v) (hh : ev σ hi = some (.int kh j)) (hr : Rd E b v xs) (hb : 0 ≤ j ∧ j ≤ xs.length)
    (K : ∀ u, (∀ (dst : Option Tmp) (ty : TypeId) (pos : String) (af : Array Edge) (gd : Option (Nat × Bool)) (w : World), PV P n σ w ⟨dst, .slice t x none (some hi) none, ty, pos, af, gd⟩ u) → Rd E b u (xs.take j.toNat) → WL P n ops Q l σ w) : WL P n ops Q l σ w :=
  K _ (fun _ _ _ _ _ _ => PV.sliceH ht hx hh hr.isSl (by omega)) (hr.take (by omega))
theorem WL.slRL (ht : slOf P t = some (e, E.size, yy)) (hx : ev σ x = some v) (hh : ev σ lo = some (.int kl i)) (hr : Rd E b v xs) (hb : 0 ≤ i ∧ i ≤ xs.length)
    (K : ∀ u, (∀ (dst : Option Tmp) (ty : TypeId) (pos : String) (af : Array Edge) (gd : Option (Nat × Bool)) (w : World), PV P n σ w ⟨dst, .slice t x (some lo) none none, ty, pos, af, gd⟩ u) → Rd E b u (xs.drop i.toNat) → WL P n ops Q l σ w) : WL P n ops Q l σ w :=
  K _ (fun _ _ _ _ _ _ => PV.sliceL ht hx hh hr.isSl (by omega)) (hr.drop (by omega))
theorem WL.slRLH (ht : slOf P t = some (e, E.size, yy)) (hx : ev σ x = some v) (hl : ev σ lo = some (.int kl i)) (hh : ev σ hi = some (.int kh j)) (hr : Rd E b v xs) (hb : 0 ≤ i ∧ i ≤ j ∧ j ≤ xs.length)
    (K : ∀ u, (∀ (dst : Option Tmp) (ty : TypeId) (pos : String) (af : Array Edge) (gd : Option (Nat × Bool)) (w : World), PV P n σ w ⟨dst, .slice t x (some lo) (some hi) none, ty, pos, af, gd⟩ u) → Rd E b u ((xs.take j.toNat).drop i.toNat) → WL P n ops Q l σ w) : WL P n ops Q l σ w :=
  K _ (fun _ _ _ _ _ _ => PV.sliceLH ht hx hl hh hr.isSl (by omega)) (hr.slV (by omega) (by omega))
theorem HP.slO (ht : slOf P t = some (e, 1, yy)) (hx : ev σ x = some v) (hh : ev σ hi = some (.int kh j)) (_u : ev σ hi = some (.int kh j)) (ho : Osl f b og v xs) (hb : 0 ≤ j ∧ j ≤ xs.length)
    (K : ∀ u, (∀ (dst : Option Tmp) (ty : TypeId) (pos : String) (af : Array Edge) (gd : Option (Nat × Bool)) (w : World), PV P n σ w ⟨dst, .slice t x none (some hi) none, ty, pos, af, gd⟩ u) → Osl f b og u (xs.take j.toNat) → HP P n l Q S L r σ w) : HP P n l Q S L r σ w :=
  K _ (fun _ _ _ _ _ _ => PV.sliceH ht hx hh ho.isSl (by omega)) (ho.take (by omega))
theorem HP.slOL (ht : slOf P t = some (e, 1, yy)) (hx : ev σ x = some v) (hh : ev σ lo = some (.int kl i)) (_u : ev σ lo = some (.int kl i)) (ho : Osl f b og v xs) (hb : 0 ≤ i ∧ i ≤ xs.length)
    (K : ∀ u, (∀ (dst : Option Tmp) (ty : TypeId) (pos : String) (af : Array Edge) (gd : Option (Nat × Bool)) (w : World), PV P n σ w ⟨dst, .slice t x (some lo) none none, ty, pos, af, gd⟩ u) → slV 1 v i.toNat xs.length = u → HP P n l Q S L r σ w) : HP P n l Q S L r σ w :=
  K _ (fun _ _ _ _ _ _ => PV.sliceL ht hx hh ho.isSl (by omega)) rfl
theorem HP.slRH (ht : slOf P t = some (e, E.size, yy)) (hx : ev σ x = some v) (hh : ev σ hi = some (.int kh j)) (hr : Rd E b v xs) (hb : 0 ≤ j ∧ j ≤ xs.length)
    (K : ∀ u, (∀ (dst : Option Tmp) (ty : TypeId) (pos : String) (af : Array Edge) (gd : Option (Nat × Bool)) (w : World), PV P n σ w ⟨dst, .slice t x none (some hi) none, ty, pos, af, gd⟩ u) → Rd E b u (xs.take j.toNat) → HP P n l Q S L r σ w) : HP P n l Q S L r σ w :=
  K _ (fun _ _ _ _ _ _ => PV.sliceH ht hx hh hr.isSl (by omega)) (hr.take (by omega))
theorem HP.slRL (ht : slOf P t = some (e, E.size, yy)) (hx : ev σ x = some v) (hh : ev σ lo = some (.int kl i)) (hr : Rd E b v xs) (hb : 0 ≤ i ∧ i ≤ xs.length)
    (K : ∀ u, (∀ (dst : Option Tmp) (ty : TypeId) (pos : String) (af : Array Edge) (gd : Option (Nat × Bool)) (w : World), PV P n σ w ⟨dst, .slice t x (some lo) none none, ty, pos, af, gd⟩ u) → Rd E b u (xs.drop i.toNat) → HP P n l Q S L r σ w) : HP P n l Q S L r σ w :=
  K _ (fun _ _ _ _ _ _ => PV.sliceL ht hx hh hr.isSl (by omega)) (hr.drop (by omega))
theorem HP.slRLH (ht : slOf P t = some (e, E.size, yy)) (hx : ev σ x = some v) (hl : ev σ lo = some (.int kl i)) (hh : ev σ hi = some (.int kh j)) (hr : Rd E b v xs) (hb : 0 ≤ i ∧ i ≤ j ∧ j ≤ xs.length)
    (K : ∀ u, (∀ (dst : Option Tmp) (ty : TypeId) (pos : String) (af : Array Edge) (gd : Option (Nat × Bool)) (w : World), PV P n σ w ⟨dst, .slice t x (some lo) (some hi) none, ty, pos, af, gd⟩ u) → Rd E b u ((xs.take j.toNat).drop i.toNat) → HP P n l Q S L r σ w) : HP P n l Q S L r σ w :=
  K _ (fun _ _ _ _ _ _ => PV.sliceLH ht hx hl hh hr.isSl (by omega)) (hr.slV (by omega) (by omega))
end
theorem UpdL.toUpd1 {og : Option Nat} {c w : World} (h : UpdL [og] c w) : Upd og c w := ⟨h.os, h.tape, h.output, h.size, fun k hk hn => h.block k hk (by simp; exact fun e => hn e)⟩
/-- An element of an owned list stays as it is while another block is written. -/
theorem Cells.updO {α : Type} {f : α → Value} {w w' : World} {og og' : Option Nat} {v : Value} {xs : List α} {i : Nat} {p : Addr} {cs : List Value} (hp : EP v i 1 p) (ho : Osl f w og v xs) (hc : Cells w p cs) (u : Upd og' w w') (d : Dj og og') : Cells w' p cs := by
  obtain ⟨a, l, cap, rfl, hi, hs, rfl⟩ := hp
  rcases ho with ⟨_, h, _⟩ | ⟨g, l', cap', cur, e, h1, h2, _⟩
  · cases h
  · injection h2 with e1 e2 e3
    obtain rfl := Option.some.inj e1
    exact hc.upd u (fun e9 => d g h1 e9)
end Go.WX
