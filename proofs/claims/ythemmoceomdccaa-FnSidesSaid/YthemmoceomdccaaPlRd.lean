/- Plain laws on what a machine with two sides reads: the places that can be reached, and how a search finds them; no program. No condition. -/
import Derived.Test.YthemmoceomdccaaPlS
import Derived.Test.YthemmoceomdccaaLibMp
import Derived.Test.YthemmoceomdccaaLibW
import Derived.Test.YthemmoceomdccaaPlI2
namespace Go.WX
open Go

def pasB (xs : List Int) (a l : Int) : Bool := decide (l < 0) || (decide (a < xs.length) && decide (xs.getD a.toNat 0 = l))
def pasI (a l : Int) : Int := if l < 0 then a else a + 1
def sdI (xs : List Int) (a l : Int) : Int := if pasB xs a l = true then pasI a l else -1
theorem pas_neg {xs : List Int} {a l : Int} (h : l < 0) : pasB xs a l = true ∧ pasI a l = a := by simp [pasB, pasI, h]
theorem pas_pos {xs : List Int} {a l : Int} (h : ¬ l < 0) : pasI a l = a + 1 ∧ pasB xs a l = (decide (a < xs.length) && decide (xs.getD a.toNat 0 = l)) := by simp [pasB, pasI, h]
theorem pas_rng {xs : List Int} {a l : Int} (h : pasB xs a l = true) (h0 : 0 ≤ a ∧ a ≤ xs.length) : 0 ≤ pasI a l ∧ pasI a l ≤ xs.length := by
  unfold pasB at h
  unfold pasI
  split
  · exact h0
  · rename_i hn
    rw [decide_eq_false hn, Bool.false_or, Bool.and_eq_true, decide_eq_true_eq] at h
    omega
theorem pasI_rng (a l : Int) (h : 0 ≤ a ∧ a ≤ 100) : 0 ≤ pasI a l ∧ pasI a l ≤ 101 := by unfold pasI; split <;> omega
theorem sd_y {xs : List Int} {a l : Int} (h : ¬ sdI xs a l < 0) : pasB xs a l = true ∧ sdI xs a l = pasI a l := by
  unfold sdI at h ⊢
  split
  · rename_i h1; exact ⟨h1, rfl⟩
  · rename_i h1; rw [if_neg h1] at h; exact absurd (by decide) h
theorem sd_n {xs : List Int} {a l : Int} (h : sdI xs a l < 0) (h0 : 0 ≤ a) : pasB xs a l = false := by
  unfold sdI at h
  split at h
  · unfold pasI at h; split at h <;> omega
  · rename_i h1; simpa using h1

section
variable (rs : List R4) (ins outs : List Int) (en : List Bool)
def nxtB (p : P3) (a : R4) : Bool := decide (a.1 = p.2.2) && pasB ins p.1 a.2.2.1 && pasB outs p.2.1 a.2.2.2
def nxtP (p : P3) (a : R4) : P3 := (pasI p.1 a.2.2.1, pasI p.2.1 a.2.2.2, a.2.1)
/-- The places that can be reached. -/
inductive Rch : P3 → Prop
  | zero : Rch (0, 0, 0)
  | step {p : P3} {a : R4} : Rch p → a ∈ rs → nxtB ins outs p a = true → Rch (nxtP p a)
def finB (p : P3) : Bool := decide (p.1 = ins.length) && decide (p.2.1 = outs.length) && en.getD p.2.2.toNat false
def rdP : Prop := ∃ p, Rch rs ins outs p ∧ finB ins outs en p = true
noncomputable def rdB : Bool := @decide (rdP rs ins outs en) (Classical.propDecidable _)
end
theorem rdB_y {rs : List R4} {ins outs : List Int} {en : List Bool} (h : rdP rs ins outs en) : true = rdB rs ins outs en := (@decide_eq_true _ (Classical.propDecidable _) h).symm
theorem rdB_n {rs : List R4} {ins outs : List Int} {en : List Bool} (h : ¬ rdP rs ins outs en) : false = rdB rs ins outs en := (@decide_eq_false _ (Classical.propDecidable _) h).symm
theorem rdB_iff {rs : List R4} {ins outs : List Int} {en : List Bool} : rdB rs ins outs en = true ↔ rdP rs ins outs en := by
  unfold rdB; exact @decide_eq_true_iff _ (Classical.propDecidable _)

abbrev z3 : P3 := (0, 0, 0)
/-- Within its bounds. -/
def InR (ins outs : List Int) (S : Int) (p : P3) : Prop := (0 ≤ p.1 ∧ p.1 ≤ ins.length) ∧ (0 ≤ p.2.1 ∧ p.2.1 ≤ outs.length) ∧ 0 ≤ p.2.2 ∧ p.2.2 ≤ S - 1
section
variable {rs : List R4} {ins outs : List Int} {en : List Bool} {S l : Int} {at_ k : Nat} {xs : List P3} {p q : P3}
theorem InR.next (h : InR ins outs S p) {a : R4} (ha : okArc S l a) (hn : nxtB ins outs p a = true) : InR ins outs S (nxtP p a) := by
  simp only [nxtB, Bool.and_eq_true] at hn
  have h1 := pas_rng hn.1.2 h.1
  have h2 := pas_rng hn.2 h.2.1
  have h3 := ha.2.1
  exact ⟨h1, h2, h3.1, h3.2⟩
theorem Rch.inR (hv : sidedV S l rs en) : ∀ {p : P3}, Rch rs ins outs p → InR ins outs S p := fun {p} h => by
  induction h with
  | zero => have := hv.1; exact ⟨by simp only; omega, by simp only; omega, by simp only; omega⟩
  | step _ ha hn ih =>
    obtain ⟨i, hi, rfl⟩ := List.mem_iff_getElem.1 ha
    have := hv.2.2.2.2 i hi
    have e : rs.getD i (0, 0, 0, 0) = rs[i] := by simp [List.getD_eq_getElem?_getD, hi]
    rw [e] at this
    exact ih.next this hn
/-- A search that is done with the first at_ places. -/
structure BI (rs : List R4) (ins outs : List Int) (en : List Bool) (at_ : Nat) (xs : List P3) : Prop where
  rch : ∀ x ∈ xs, Rch rs ins outs x
  zero : z3 ∈ xs
  done : ∀ j, j < at_ → finB ins outs en (xs.getD j z3) = false ∧ ∀ a ∈ rs, nxtB ins outs (xs.getD j z3) a = true → nxtP (xs.getD j z3) a ∈ xs
  nodup : xs.Nodup
  le : at_ ≤ xs.length
theorem BI.start (rs : List R4) (ins outs : List Int) (en : List Bool) : BI rs ins outs en 0 [z3] := ⟨fun x hx => by simp at hx; subst hx; exact .zero, by simp, fun j h => by omega, by simp, by simp⟩
theorem getD_memP {xs : List P3} {j : Nat} (h : j < xs.length) : xs.getD j z3 ∈ xs := by
  have e : xs.getD j z3 = xs[j] := by simp [List.getD_eq_getElem?_getD, h]
  rw [e]; exact List.getElem_mem h
theorem BI.found (h : BI rs ins outs en at_ xs) (hl : at_ < xs.length) (hf : finB ins outs en (xs.getD at_ z3) = true) : true = rdB rs ins outs en := rdB_y ⟨_, h.rch _ (getD_memP hl), hf⟩
theorem BI.fail (h : BI rs ins outs en at_ xs) (hl : xs.length ≤ at_) : false = rdB rs ins outs en := rdB_n (fun ⟨p, hp, hf⟩ => by
  have he : at_ = xs.length := Nat.le_antisymm h.le hl
  have key : ∀ {p : P3}, Rch rs ins outs p → p ∈ xs := fun {p} hp => by
    induction hp with
    | zero => exact h.zero
    | step _ ha hn ih =>
      obtain ⟨j, hj, rfl⟩ := List.mem_iff_getElem.1 ih
      have e : xs.getD j z3 = xs[j] := by simp [List.getD_eq_getElem?_getD, hj]
      have := (h.done j (by omega)).2 _ ha (by rw [e]; exact hn)
      rw [e] at this; exact this
  obtain ⟨j, hj, rfl⟩ := List.mem_iff_getElem.1 (key hp)
  have e : xs.getD j z3 = xs[j] := by simp [List.getD_eq_getElem?_getD, hj]
  have := (h.done j (by omega)).1
  rw [e, hf] at this; cases this)
/-- .. and with the first k arcs at place number at_. -/
structure BA (rs : List R4) (ins outs : List Int) (en : List Bool) (at_ : Nat) (p : P3) (k : Nat) (xs : List P3) : Prop where
  bi : BI rs ins outs en at_ xs
  lt : at_ < xs.length
  eq : xs.getD at_ z3 = p
  fin : finB ins outs en p = false
  arcs : ∀ j, j < k → nxtB ins outs p (rs.getD j z4) = true → nxtP p (rs.getD j z4) ∈ xs
theorem BI.arc (h : BI rs ins outs en at_ xs) (hl : at_ < xs.length) (he : xs.getD at_ z3 = p) (hf : finB ins outs en p = false) : BA rs ins outs en at_ p 0 xs := ⟨h, hl, he, hf, fun j h => by omega⟩
theorem BA.no (h : BA rs ins outs en at_ p k xs) (hn : nxtB ins outs p (rs.getD k z4) = false) : BA rs ins outs en at_ p (k + 1) xs :=
  ⟨h.bi, h.lt, h.eq, h.fin, fun j hj hh => by
    rcases Nat.lt_succ_iff_lt_or_eq.1 hj with h1 | rfl
    · exact h.arcs j h1 hh
    · rw [hn] at hh; cases hh⟩
theorem BA.old (h : BA rs ins outs en at_ p k xs) (hq : nxtP p (rs.getD k z4) ∈ xs) : BA rs ins outs en at_ p (k + 1) xs :=
  ⟨h.bi, h.lt, h.eq, h.fin, fun j hj hh => by
    rcases Nat.lt_succ_iff_lt_or_eq.1 hj with h1 | rfl
    · exact h.arcs j h1 hh
    · exact hq⟩
theorem getD_snocP {xs : List P3} {q : P3} {j : Nat} (h : j < xs.length) : (xs ++ [q]).getD j z3 = xs.getD j z3 := by
  rw [List.getD_eq_getElem?_getD, List.getElem?_append_left h, ← List.getD_eq_getElem?_getD]
theorem BA.put (h : BA rs ins outs en at_ p k xs) (hk : k < rs.length) (hn : nxtB ins outs p (rs.getD k z4) = true) (hq : ¬ nxtP p (rs.getD k z4) ∈ xs) : BA rs ins outs en at_ p (k + 1) (xs ++ [nxtP p (rs.getD k z4)]) := by
  have hm : rs.getD k z4 ∈ rs := by
    have e : rs.getD k z4 = rs[k] := by simp [List.getD_eq_getElem?_getD, hk]
    rw [e]; exact List.getElem_mem hk
  have hp : Rch rs ins outs p := by rw [← h.eq]; exact h.bi.rch _ (getD_memP h.lt)
  have hle := h.bi.le
  have hlt := h.lt
  refine ⟨⟨fun x hx => ?_, by simp [h.bi.zero], fun j hj => ?_, ?_, by simp; omega⟩, by simp; omega, by rw [getD_snocP hlt]; exact h.eq, h.fin, fun j hj hh => ?_⟩
  · rcases List.mem_append.1 hx with h1 | h1
    · exact h.bi.rch x h1
    · simp at h1; subst h1; exact hp.step hm hn
  · rw [getD_snocP (by omega)]
    have := h.bi.done j hj
    exact ⟨this.1, fun a ha hh => List.mem_append.2 (.inl (this.2 a ha hh))⟩
  · rw [List.nodup_append]
    exact ⟨h.bi.nodup, by simp, fun a ha b hb => by simp at hb; subst hb; rintro rfl; exact hq ha⟩
  · rcases Nat.lt_succ_iff_lt_or_eq.1 hj with h1 | rfl
    · exact List.mem_append.2 (.inl (h.arcs j h1 hh))
    · simp
theorem BA.done (h : BA rs ins outs en at_ p k xs) (hk : rs.length ≤ k) : BI rs ins outs en (at_ + 1) xs := by
  refine ⟨h.bi.rch, h.bi.zero, fun j hj => ?_, h.bi.nodup, h.lt⟩
  rcases Nat.lt_succ_iff_lt_or_eq.1 hj with h1 | rfl
  · exact h.bi.done j h1
  · rw [h.eq]
    refine ⟨h.fin, fun a ha hh => ?_⟩
    obtain ⟨i, hi, rfl⟩ := List.mem_iff_getElem.1 ha
    have e : rs.getD i z4 = rs[i] := by simp [List.getD_eq_getElem?_getD, hi]
    have := h.arcs i (by omega) (by rw [e]; exact hh)
    rw [e] at this; exact this
/-! ### How many places there are -/
theorem nodup_le : ∀ (n : Nat) (l : List Nat), l.Nodup → (∀ x ∈ l, x < n) → l.length ≤ n
  | 0, [], _, _ => Nat.le_refl _
  | 0, x :: r, _, h => absurd (h x (by simp)) (by omega)
  | n + 1, l, hd, h => by
    have h1 := nodup_le n (l.filter (· ≠ n)) (hd.sublist List.filter_sublist) (fun x hx => by
      have := List.mem_filter.1 hx
      have h3 := h x this.1
      have h4 : x ≠ n := by simpa using this.2
      omega)
    have h2 : l.length ≤ (l.filter (· ≠ n)).length + 1 := by
      clear h h1
      induction l with
      | nil => simp
      | cons x r ih =>
        have hd' := List.nodup_cons.1 hd
        by_cases e : x = n
        · subst e
          have : r.filter (· ≠ x) = r := List.filter_eq_self.2 (fun y hy => by simp; rintro rfl; exact hd'.1 hy)
          simp only [List.filter_cons, ne_eq, not_true_eq_false, decide_false, Bool.false_eq_true, if_false, List.length_cons]
          simp only [ne_eq] at this
          rw [this]; omega
        · have := ih hd'.2
          simp only [List.filter_cons, ne_eq, e, not_false_eq_true, decide_true, if_true, List.length_cons]
          simp only [ne_eq] at this
          omega
    omega
theorem nodup_map {xs : List P3} {f : P3 → Nat} (hd : xs.Nodup) (hi : ∀ x ∈ xs, ∀ y ∈ xs, f x = f y → x = y) : (xs.map f).Nodup := by
  induction xs with
  | nil => simp
  | cons x r ih =>
    have hd' := List.nodup_cons.1 hd
    rw [List.map_cons, List.nodup_cons]
    refine ⟨fun h => ?_, ih hd'.2 (fun a ha b hb => hi a (List.mem_cons_of_mem _ ha) b (List.mem_cons_of_mem _ hb))⟩
    obtain ⟨y, hy, e⟩ := List.mem_map.1 h
    have := hi y (List.mem_cons_of_mem _ hy) x (by simp) e
    subst this; exact hd'.1 hy
theorem BI.small (h : BI rs ins outs en at_ xs) (hv : sidedV S l rs en) (hi : ins.length ≤ 12) (ho : outs.length ≤ 12) : xs.length ≤ 1352 := by
  have h8 := hv.1
  have hr : ∀ x ∈ xs, InR ins outs S x := fun x hx => (h.rch x hx).inR hv
  have h1 := nodup_le 1352 (xs.map fun x => ((x.1 * 13 + x.2.1) * 8 + x.2.2).toNat) (nodup_map h.nodup (fun x hx y hy e => by
    have a1 := hr x hx; have a2 := hr y hy
    obtain ⟨x0, x1, x2⟩ := x; obtain ⟨y0, y1, y2⟩ := y
    simp only [InR] at a1 a2
    simp only at e
    have e2 : x2 = y2 := by omega
    have e1 : x1 = y1 := by omega
    have e0 : x0 = y0 := by omega
    rw [e0, e1, e2])) (fun v hv2 => by
    obtain ⟨x, hx, rfl⟩ := List.mem_map.1 hv2
    have a1 := hr x hx
    simp only [InR] at a1
    omega)
  simpa using h1
theorem BI.inR (h : BI rs ins outs en at_ xs) (hv : sidedV S l rs en) {j : Nat} (hj : j < xs.length) : InR ins outs S (xs.getD j z3) := (h.rch _ (getD_memP hj)).inR hv
/-! ### Places as numbers -/
def codP (W C : Int) (p : P3) : Int := p.2.2 * C + p.1 * W + p.2.1
section
variable {W C : Int}
theorem cod_rng (hW : W = outs.length + 1) (hC : C = (ins.length + 1) * W) (h : InR ins outs S p) : (0 ≤ p.1 * W + p.2.1 ∧ p.1 * W + p.2.1 ≤ C - 1) ∧ 0 ≤ codP W C p ∧ codP W C p ≤ S * C - 1 := by
  have hW1 : 1 ≤ W := by omega
  have h1 := h.1; have h2 := h.2.1; have h3 := h.2.2
  have m1 : p.1 * W ≤ ins.length * W := Int.mul_le_mul_of_nonneg_right h1.2 (by omega)
  have m0 : 0 ≤ p.1 * W := Int.mul_nonneg h1.1 (by omega)
  have e : C = ins.length * W + W := by rw [hC, Int.add_mul, Int.one_mul]
  have b1 : p.1 * W + p.2.1 ≤ C - 1 := by omega
  have hC0 : 0 ≤ C := by omega
  have m2 : p.2.2 * C ≤ (S - 1) * C := Int.mul_le_mul_of_nonneg_right h3.2 hC0
  have m3 : 0 ≤ p.2.2 * C := Int.mul_nonneg h3.1 hC0
  have e2 : (S - 1) * C = S * C - C := by rw [Int.sub_mul, Int.one_mul]
  unfold codP
  exact ⟨⟨by omega, b1⟩, by omega, by omega⟩
theorem cod_dec (hW : W = outs.length + 1) (hC : C = (ins.length + 1) * W) (h : InR ins outs S p) : codP W C p / C = p.2.2 ∧ (codP W C p).tmod C = p.1 * W + p.2.1 ∧ (p.1 * W + p.2.1) / W = p.1 ∧ (codP W C p).tmod W = p.2.1 := by
  have hr := cod_rng hW hC h
  have h2 := h.2.1; have h1 := h.1
  have hW1 : 0 < W := by omega
  have hC1 : 0 < C := by omega
  have hcm : (codP W C p).tmod C = codP W C p % C := Int.tmod_eq_emod_of_nonneg hr.2.1
  have hwm : (codP W C p).tmod W = codP W C p % W := Int.tmod_eq_emod_of_nonneg hr.2.1
  rw [hcm, hwm]
  have e : codP W C p = (p.1 * W + p.2.1) + p.2.2 * C := by unfold codP; omega
  refine ⟨?_, ?_, ?_, ?_⟩
  · rw [e, Int.add_mul_ediv_right _ _ (by omega), Int.ediv_eq_zero_of_lt hr.1.1 (by omega)]; omega
  · rw [e, Int.add_mul_emod_self_right]; exact Int.emod_eq_of_lt hr.1.1 (by omega)
  · rw [Int.add_comm, Int.add_mul_ediv_right _ _ (by omega), Int.ediv_eq_zero_of_lt h2.1 (by omega)]; omega
  · have e2 : codP W C p = p.2.1 + (p.2.2 * (ins.length + 1) + p.1) * W := by
      unfold codP; rw [Int.add_mul (p.2.2 * (ins.length + 1)) p.1 W, Int.mul_assoc, ← hC]; omega
    rw [e2, Int.add_mul_emod_self_right]; exact Int.emod_eq_of_lt h2.1 (by omega)
theorem cod_inj (hW : W = outs.length + 1) (hC : C = (ins.length + 1) * W) (h : InR ins outs S p) (k : InR ins outs S q) (e : codP W C p = codP W C q) : p = q := by
  have h1 := cod_dec hW hC h; have h2 := cod_dec hW hC k
  rw [e] at h1
  have a2 : p.2.2 = q.2.2 := h1.1.symm.trans h2.1
  have a1 : p.2.1 = q.2.1 := h1.2.2.2.symm.trans h2.2.2.2
  have a0 : p.1 = q.1 := by rw [← h1.2.2.1, ← h2.2.2.1, ← h1.2.1, ← h2.2.1]
  obtain ⟨p0, p1, p2⟩ := p; obtain ⟨q0, q1, q2⟩ := q
  simp only at a0 a1 a2
  rw [a0, a1, a2]
/-- What is marked as seen is what was found. -/
def SN (ins outs : List Int) (S W C : Int) (sn : List Bool) (xs : List P3) : Prop := (sn.length : Int) = S * C ∧ ∀ p, InR ins outs S p → sn.getD (codP W C p).toNat false = decide (p ∈ xs)
theorem SN.start (hW : W = outs.length + 1) (hC : C = (ins.length + 1) * W) (hS : 1 ≤ S) {n : Nat} (hn : (n : Int) = S * C) : SN ins outs S W C ((List.replicate n false).set 0 true) [z3] := by
  refine ⟨by simpa using hn, fun p hp => ?_⟩
  have hz : InR ins outs S z3 := ⟨by simp only; omega, by simp only; omega, by simp only; omega⟩
  have ez : codP W C z3 = 0 := by simp [codP]
  by_cases e : p = z3
  · subst e
    have hr := (cod_rng hW hC hz).2
    rw [ez] at hr ⊢
    have hn0 : 0 < n := by omega
    simp [List.getD_eq_getElem?_getD, hn0]
  · have hne : codP W C p ≠ 0 := fun e9 => e (cod_inj hW hC hp hz (by rw [ez]; exact e9))
    have hr := (cod_rng hW hC hp).2
    have : (0 : Nat) ≠ (codP W C p).toNat := by omega
    rw [List.getD_eq_getElem?_getD, List.getElem?_set_ne this, decide_eq_false (by simpa using e)]
    rw [← List.getD_eq_getElem?_getD]
    by_cases h9 : (codP W C p).toNat < n
    · simp [List.getD_eq_getElem?_getD, h9]
    · simp [List.getD_eq_getElem?_getD, List.getElem?_eq_none (show (List.replicate n false).length ≤ (codP W C p).toNat by simp; omega)]
theorem SN.put {sn : List Bool} (h : SN ins outs S W C sn xs) (hW : W = outs.length + 1) (hC : C = (ins.length + 1) * W) (hq : InR ins outs S q) : SN ins outs S W C (sn.set (codP W C q).toNat true) (xs ++ [q]) := by
  refine ⟨by simpa using h.1, fun p hp => ?_⟩
  have hr := (cod_rng hW hC hp).2; have hr2 := (cod_rng hW hC hq).2
  by_cases e : p = q
  · subst e
    have : (codP W C p).toNat < sn.length := by have := h.1; omega
    simp [List.getD_eq_getElem?_getD, this]
  · have hne : codP W C q ≠ codP W C p := fun e9 => e (cod_inj hW hC hp hq e9.symm)
    rw [List.getD_eq_getElem?_getD, List.getElem?_set_ne (by omega), ← List.getD_eq_getElem?_getD, h.2 p hp]
    simp [e]
end
end
section
variable {rs : List R4} {ins outs : List Int} {en : List Bool} {p : P3} {a : R4} {xs : List P3}
theorem fin_y (h1 : p.1 = ins.length) (h2 : p.2.1 = outs.length) (h3 : en.getD p.2.2.toNat false = true) : finB ins outs en p = true := by simp only [finB, decide_eq_true h1, decide_eq_true h2, h3]; rfl
theorem fin_n1 (h1 : ¬ p.1 = ins.length) : finB ins outs en p = false := by simp only [finB, decide_eq_false h1, Bool.false_and]
theorem fin_n2 (h1 : ¬ p.2.1 = outs.length) : finB ins outs en p = false := by simp only [finB, decide_eq_false h1, Bool.false_and, Bool.and_false]
theorem fin_n3 (h1 : en.getD p.2.2.toNat false = false) : finB ins outs en p = false := by simp only [finB, h1, Bool.and_false]
theorem nxt_y (h1 : a.1 = p.2.2) (h2 : pasB ins p.1 a.2.2.1 = true) (h3 : pasB outs p.2.1 a.2.2.2 = true) : nxtB ins outs p a = true := by simp only [nxtB, decide_eq_true h1, h2, h3]; rfl
theorem nxt_n1 (h1 : ¬ a.1 = p.2.2) : nxtB ins outs p a = false := by simp only [nxtB, decide_eq_false h1, Bool.false_and]
theorem nxt_n2 (h2 : pasB ins p.1 a.2.2.1 = false) : nxtB ins outs p a = false := by simp only [nxtB, h2, Bool.false_and, Bool.and_false]
theorem nxt_n3 (h3 : pasB outs p.2.1 a.2.2.2 = false) : nxtB ins outs p a = false := by simp only [nxtB, h3, Bool.and_false]
theorem mapP_getD {f : P3 → Int} {j : Nat} (h : j < xs.length) : (xs.map f).getD j 0 = f (xs.getD j z3) := by simp [List.getD_eq_getElem?_getD, h]
theorem mul_rng {x y m n : Int} (hx : 0 ≤ x ∧ x ≤ m) (hy : 0 ≤ y ∧ y ≤ n) : 0 ≤ x * y ∧ x * y ≤ m * n := ⟨Int.mul_nonneg hx.1 hy.1, Int.le_trans (Int.mul_le_mul_of_nonneg_right hx.2 hy.1) (Int.mul_le_mul_of_nonneg_left hy.2 (Int.le_trans hx.1 hx.2))⟩
end
/-- What is told of outputs. -/
noncomputable def outB (S L : Int) (rs : List R4) (en : List Bool) (ins : List Int) (m : Int) : Bool := sidedB S L rs en && isWordB ins L && decide (0 ≤ m ∧ m ≤ 4)
noncomputable def outL (rs : List R4) (en : List Bool) (ins : List Int) (L m : Int) : List (List Int) := sel (fun k => rdB rs ins ((wordsP L (m.toNat + 1)).getD k []) en) [] (wordsP L (m.toNat + 1)) (wordsP L (m.toNat + 1)).length
section
variable {S L m : Int} {rs : List R4} {ins : List Int} {en : List Bool}
theorem out_n1 (h : ¬ sidedV S L rs en) : outB S L rs en ins m = false := by simp only [outB, sidedB, decide_eq_false h, Bool.false_and]
theorem out_n2 (h : isWordB ins L = false) : outB S L rs en ins m = false := by simp only [outB, h, Bool.false_and, Bool.and_false]
theorem out_n2' (hv : sidedV S L rs en) (h : wordB ins L = false) : outB S L rs en ins m = false := out_n2 (by simp only [isWordB, h, Bool.and_false])
theorem out_n3 (h : ¬ (0 ≤ m ∧ m ≤ 4)) : outB S L rs en ins m = false := by simp only [outB, decide_eq_false h, Bool.and_false]
theorem out_y (h : sidedV S L rs en) (h2 : isWordB ins L = true) (h3 : 0 ≤ m ∧ m ≤ 4) : outB S L rs en ins m = true := by simp only [outB, sidedB, decide_eq_true h, h2, decide_eq_true h3, Bool.and_self]
theorem isW_of (hv : sidedV S L rs en) (h : wordB ins L = true) : isWordB ins L = true := by simp only [isWordB, decide_eq_true hv.2.1, h, Bool.and_self]
theorem isW_12 (h : isWordB ins L = true) : ins.length ≤ 12 := by
  simp only [isWordB, wordB, Bool.and_eq_true, decide_eq_true_eq] at h; omega
theorem outR_len : (onT (outB S L rs en ins m) (outL rs en ins L m)).length ≤ 1365 ∧ sumL (onT (outB S L rs en ins m) (outL rs en ins L m)) ≤ 6825 := by
  by_cases h : outB S L rs en ins m = true
  · rw [onT_yes h]
    simp only [outB, sidedB, Bool.and_eq_true, decide_eq_true_eq] at h
    have hL := h.1.1.2.1.2
    have h1 : (outL rs en ins L m).length ≤ 1365 := Nat.le_trans (sel_len _ _ _ _) (wordsP_len hL _ (by omega))
    have key : ∀ (l : List (List Int)), (∀ x ∈ l, (x.length : Int) ≤ 5) → sumL l ≤ 5 * l.length := by
      intro l
      induction l with
      | nil => intro _; simp [sumL]
      | cons a r ih =>
        intro h9
        have h1 := ih (fun x hx => h9 x (List.mem_cons_of_mem _ hx))
        have h2 := h9 a (by simp)
        rw [sumL_cons, List.length_cons]; omega
    have h2 := key (outL rs en ins L m) (fun x hx => by
      obtain ⟨j, hj, rfl⟩ := List.mem_iff_getElem.1 (sel_mem (Nat.le_refl _) x hx)
      have := wordsP_get (L := L) (m := m.toNat) (k := j) hj
      have e : (wordsP L (m.toNat + 1)).getD j [] = (wordsP L (m.toNat + 1))[j] := by simp [List.getD_eq_getElem?_getD, hj]
      rw [e] at this
      omega)
    omega
  · rw [onT_no h]; simp [sumL]
end

end Go.WX
