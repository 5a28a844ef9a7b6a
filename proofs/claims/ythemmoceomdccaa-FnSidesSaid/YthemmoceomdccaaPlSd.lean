/- Plain laws on what turned, joined and chained machines with two sides read; no program. No condition. -/
import Derived.Test.YthemmoceomdccaaPlRd
import Derived.Test.YthemmoceomdccaaPlT
namespace Go.WX
open Go

theorem okArc_put {S L : Int} {rs : List R4} {a : R4} (h : ∀ i : Nat, i < rs.length → okArc S L (rs.getD i (0, 0, 0, 0))) (ha : okArc S L a) : ∀ i : Nat, i < (rs ++ [a]).length → okArc S L ((rs ++ [a]).getD i (0, 0, 0, 0)) := fun i hi => by
  by_cases e : i < rs.length
  · rw [List.getD_eq_getElem?_getD, List.getElem?_append_left e, ← List.getD_eq_getElem?_getD]; exact h i e
  · have e2 : i = rs.length := by simp at hi; omega
    subst e2
    rw [List.getD_eq_getElem?_getD, List.getElem?_append_right (Nat.le_refl _), Nat.sub_self]; exact ha
theorem sided_dr {S L : Int} {rs : List R4} {es : List Bool} (hS : 1 ≤ S ∧ S ≤ 3) (hL : L = 2) (h : (rs.length : Int) ≤ 7 ∧ (es.length : Int) = S ∧ ∀ i : Nat, i < rs.length → okArc S L (rs.getD i (0, 0, 0, 0))) : sidedV S L rs es := ⟨by omega, by omega, by omega, h.2.1, h.2.2⟩
/-! ### Turned -/
def turnR (a : R4) : R4 := (a.1, a.2.1, a.2.2.2, a.2.2.1)
def turnL (rs : List R4) : List R4 := rs.map turnR
theorem turnL_len (rs : List R4) (k : Nat) : (turnL (rs.take k)).length ≤ rs.length := by simp [turnL]; omega
theorem turnL_put {rs : List R4} {k : Nat} (h : k < rs.length) : turnL (rs.take k) ++ [turnR (rs.getD k (0, 0, 0, 0))] = turnL (rs.take (k + 1)) := by
  rw [take_succ h ((0, 0, 0, 0) : R4)]; simp [turnL]
theorem turnL_all {rs : List R4} {k : Nat} (h : rs.length ≤ k) : turnL (rs.take k) = turnL rs := by rw [List.take_of_length_le h]
section
variable {rs xs ys : List R4} {ins mid outs : List Int} {en xe ye : List Bool} {p q : P3} {m n l l' s t : Int} {a b : R4}
theorem rch_turn (h : Rch rs ins outs p) : Rch (turnL rs) outs ins (p.2.1, p.1, p.2.2) := by
  induction h with
  | zero => exact .zero
  | @step p a _ ha hn ih =>
    have hm : turnR a ∈ turnL rs := List.mem_map_of_mem ha
    have hb : nxtB outs ins (p.2.1, p.1, p.2.2) (turnR a) = true := by
      simp only [nxtB, turnR, Bool.and_eq_true] at hn ⊢
      exact ⟨⟨hn.1.1, hn.2⟩, hn.1.2⟩
    exact Rch.step ih hm hb
theorem rd_turn (h : rdP rs ins outs en) : rdP (turnL rs) outs ins en := by
  obtain ⟨p, hp, hf⟩ := h
  refine ⟨_, rch_turn hp, ?_⟩
  simp only [finB, Bool.and_eq_true] at hf ⊢
  exact ⟨⟨hf.1.2, hf.1.1⟩, hf.2⟩

/-! ### Joined -/
theorem eA_mov (ha : a ∈ xs) : movR 1 a ∈ eA n xs ys := by
  unfold eA allE movL
  exact List.mem_append.2 (.inl (List.mem_append.2 (.inl (List.mem_map_of_mem ha))))
theorem eA_cpy (ha : a ∈ xs) (h0 : a.1 = 0) : setR0 0 (movR 1 a) ∈ eA n xs ys := by
  rw [← eA_eq]
  refine List.mem_append.2 (.inl (List.mem_append.2 (.inr ?_)))
  unfold frL movL
  refine List.mem_flatMap.2 ⟨_, List.mem_map_of_mem ha, ?_⟩
  unfold fr1
  rw [if_pos (by simp only [movR]; omega)]; simp
theorem rch_either (h : Rch xs ins outs p) : p = (0, 0, 0) ∨ Rch (eA n xs ys) ins outs (p.1, p.2.1, p.2.2 + 1) := by
  induction h with
  | zero => exact .inl rfl
  | @step p a _ ha hn ih =>
    refine .inr ?_
    simp only [nxtB, Bool.and_eq_true, decide_eq_true_eq] at hn
    rcases ih with rfl | ih
    · have hb : nxtB ins outs (0, 0, 0) (setR0 0 (movR 1 a)) = true := by
        simp only [nxtB, Bool.and_eq_true, decide_eq_true_eq]
        exact ⟨⟨by first | rfl | trivial, hn.1.2⟩, hn.2⟩
      exact Rch.step Rch.zero (eA_cpy (n := n) (ys := ys) ha hn.1.1) hb
    · have hb : nxtB ins outs (p.1, p.2.1, p.2.2 + 1) (movR 1 a) = true := by
        simp only [nxtB, movR, Bool.and_eq_true, decide_eq_true_eq]
        exact ⟨⟨by omega, hn.1.2⟩, hn.2⟩
      exact Rch.step ih (eA_mov ha) hb
theorem rd_either (hv : sidedV m l xs xe) (h : rdP xs ins outs xe) : rdP (eA n xs ys) ins outs (eE xe ye) := by
  obtain ⟨p, hp, hf⟩ := h
  have hr := hp.inR hv
  have h3 : 0 ≤ p.2.2 ∧ p.2.2 ≤ m - 1 := hr.2.2
  have hl : (xe.length : Int) = m := hv.2.2.2.1
  simp only [finB, Bool.and_eq_true, decide_eq_true_eq] at hf
  rcases rch_either (n := n) (ys := ys) hp with e | hq
  · subst e
    refine ⟨_, .zero, ?_⟩
    simp only [finB, Bool.and_eq_true, decide_eq_true_eq]
    refine ⟨hf.1, ?_⟩
    have h4 : xe.getD 0 false = true := hf.2
    show (eE xe ye).getD 0 false = true
    unfold eE; rw [h4]; rfl
  · refine ⟨_, hq, ?_⟩
    simp only [finB, Bool.and_eq_true, decide_eq_true_eq]
    refine ⟨hf.1, ?_⟩
    have e : (p.2.2 + 1).toNat = p.2.2.toNat + 1 := by omega
    rw [e]
    unfold eE
    have e2 : ([(xe.getD 0 false || ye.getD 0 false)] ++ xe ++ ye).getD (p.2.2.toNat + 1) false = xe.getD p.2.2.toNat false := by
      simp only [List.cons_append, List.nil_append, List.getD_cons_succ]
      rw [List.getD_eq_getElem?_getD, List.getElem?_append_left (by omega), ← List.getD_eq_getElem?_getD]
    rw [e2]; exact hf.2

/-! ### Chained -/
theorem mem_dbl {α : Type} {f : Nat → Nat → List α} {M I i k : Nat} {x : α} (hi : i < I) (hk : k < M) (h : f i k = [x]) : x ∈ dblF f M I := by
  unfold dblF rowF
  exact List.mem_flatMap.2 ⟨i, List.mem_range.2 hi, List.mem_flatMap.2 ⟨k, List.mem_range.2 hk, by rw [h]; simp⟩⟩
theorem mem_at {rs : List R4} (h : a ∈ rs) : ∃ i, i < rs.length ∧ rs.getD i (0, 0, 0, 0) = a := by
  obtain ⟨i, hi, rfl⟩ := List.mem_iff_getElem.1 h
  exact ⟨i, hi, by simp [List.getD_eq_getElem?_getD, hi]⟩
theorem wS (hs : 0 ≤ s ∧ s ≤ 7) (hn : 1 ≤ n ∧ n ≤ 8) (ht : 0 ≤ t ∧ t ≤ 7) : wI (wI (s * n) + t) = s * n + t := by
  have h1 : 0 ≤ s * n := Int.mul_nonneg hs.1 (by omega)
  have h2 : s * n ≤ 7 * 8 := Int.mul_le_mul hs.2 hn.2 (by omega) (by omega)
  have e1 : IntKind.i64.wrap (s * n) = s * n := R64.wrap ⟨by omega, by omega⟩
  show IntKind.i64.wrap (IntKind.i64.wrap (s * n) + t) = s * n + t
  rw [e1]; exact R64.wrap ⟨by omega, by omega⟩
theorem ok_mem {rs : List R4} (hv : sidedV m l rs en) (h : a ∈ rs) : okArc m l a := by
  obtain ⟨i, hi, e⟩ := mem_at h
  have := hv.2.2.2.2 i hi
  rw [e] at this; exact this
theorem c1_mem (hx : sidedV m l xs xe) (hy : sidedV n l' ys ye) (ha : a ∈ xs) (hb : b ∈ ys) (h : 0 ≤ a.2.2.2) (he : a.2.2.2 = b.2.2.1) : (a.1 * n + b.1, a.2.1 * n + b.2.1, a.2.2.1, b.2.2.2) ∈ cC m n xs ys := by
  have oa := ok_mem hx ha; have ob := ok_mem hy hb
  have hm := hx.1; have hn := hy.1
  simp only [okArc] at oa ob
  obtain ⟨i, hi, rfl⟩ := mem_at ha
  obtain ⟨k, hk, rfl⟩ := mem_at hb
  unfold cC cB cA
  refine List.mem_append.2 (.inl (List.mem_append.2 (.inl (List.mem_append.2 (.inr (mem_dbl hi hk ?_))))))
  unfold ch1
  rw [onF_yes ⟨h, he⟩ rfl, wS (by omega) hn (by omega), wS (by omega) hn (by omega)]
theorem c2_mem (hx : sidedV m l xs xe) (hy : sidedV n l' ys ye) (ha : a ∈ xs) (h : a.2.2.2 < 0) (ht : 0 ≤ t ∧ t ≤ n - 1) : (a.1 * n + t, a.2.1 * n + t, a.2.2.1, -1) ∈ cC m n xs ys := by
  have oa := ok_mem hx ha
  have hm := hx.1; have hn := hy.1
  simp only [okArc] at oa
  obtain ⟨i, hi, rfl⟩ := mem_at ha
  unfold cC cB
  refine List.mem_append.2 (.inl (List.mem_append.2 (.inr (mem_dbl (k := t.toNat) hi (by omega) ?_))))
  unfold ch2
  rw [onF_yes h rfl, show ((t.toNat : Nat) : Int) = t from by omega, wS (by omega) hn (by omega), wS (by omega) hn (by omega)]
theorem c3_mem (hx : sidedV m l xs xe) (hy : sidedV n l' ys ye) (hb : b ∈ ys) (h : b.2.2.1 < 0) (hs : 0 ≤ s ∧ s ≤ m - 1) : (s * n + b.1, s * n + b.2.1, -1, b.2.2.2) ∈ cC m n xs ys := by
  have ob := ok_mem hy hb
  have hm := hx.1; have hn := hy.1
  simp only [okArc] at ob
  obtain ⟨k, hk, rfl⟩ := mem_at hb
  unfold cC
  refine List.mem_append.2 (.inr (mem_dbl (i := s.toNat) (by omega) hk ?_))
  unfold ch3
  rw [onF_yes h rfl, show ((s.toNat : Nat) : Int) = s from by omega, wS (by omega) hn (by omega), wS (by omega) hn (by omega)]
theorem st1 (hx : sidedV m l xs xe) (hy : sidedV n l' ys ye) (hr : Rch (cC m n xs ys) ins outs (p.1, q.2.1, p.2.2 * n + q.2.2)) (ha : a ∈ xs) (hb : b ∈ ys) (h1 : a.1 = p.2.2) (h2 : b.1 = q.2.2) (hi : pasB ins p.1 a.2.2.1 = true) (ho : pasB outs q.2.1 b.2.2.2 = true) (h : 0 ≤ a.2.2.2) (he : a.2.2.2 = b.2.2.1) :
    Rch (cC m n xs ys) ins outs (pasI p.1 a.2.2.1, pasI q.2.1 b.2.2.2, a.2.1 * n + b.2.1) := by
  have hn : nxtB ins outs (p.1, q.2.1, p.2.2 * n + q.2.2) (a.1 * n + b.1, a.2.1 * n + b.2.1, a.2.2.1, b.2.2.2) = true := by
    simp only [nxtB, Bool.and_eq_true, decide_eq_true_eq]; rw [h1, h2]; exact ⟨⟨rfl, hi⟩, ho⟩
  exact Rch.step hr (c1_mem hx hy ha hb h he) hn
theorem st2 (hx : sidedV m l xs xe) (hy : sidedV n l' ys ye) (hr : Rch (cC m n xs ys) ins outs (p.1, q.2.1, p.2.2 * n + q.2.2)) (ha : a ∈ xs) (h1 : a.1 = p.2.2) (hi : pasB ins p.1 a.2.2.1 = true) (h : a.2.2.2 < 0) (ht : 0 ≤ q.2.2 ∧ q.2.2 ≤ n - 1) :
    Rch (cC m n xs ys) ins outs (pasI p.1 a.2.2.1, q.2.1, a.2.1 * n + q.2.2) := by
  have hp := pas_neg (xs := outs) (a := q.2.1) (show (-1 : Int) < 0 from by decide)
  have hn : nxtB ins outs (p.1, q.2.1, p.2.2 * n + q.2.2) (a.1 * n + q.2.2, a.2.1 * n + q.2.2, a.2.2.1, -1) = true := by
    simp only [nxtB, Bool.and_eq_true, decide_eq_true_eq]; rw [h1]; exact ⟨⟨rfl, hi⟩, hp.1⟩
  have h9 := Rch.step hr (c2_mem hx hy ha h ht) hn
  simp only [nxtP] at h9
  rw [hp.2] at h9; exact h9
theorem st3 (hx : sidedV m l xs xe) (hy : sidedV n l' ys ye) (hr : Rch (cC m n xs ys) ins outs (p.1, q.2.1, p.2.2 * n + q.2.2)) (hb : b ∈ ys) (h2 : b.1 = q.2.2) (ho : pasB outs q.2.1 b.2.2.2 = true) (h : b.2.2.1 < 0) (hs : 0 ≤ p.2.2 ∧ p.2.2 ≤ m - 1) :
    Rch (cC m n xs ys) ins outs (p.1, pasI q.2.1 b.2.2.2, p.2.2 * n + b.2.1) := by
  have hp := pas_neg (xs := ins) (a := p.1) (show (-1 : Int) < 0 from by decide)
  have hn : nxtB ins outs (p.1, q.2.1, p.2.2 * n + q.2.2) (p.2.2 * n + b.1, p.2.2 * n + b.2.1, -1, b.2.2.2) = true := by
    simp only [nxtB, Bool.and_eq_true, decide_eq_true_eq]; rw [h2]; exact ⟨⟨rfl, hp.1⟩, ho⟩
  have h9 := Rch.step hr (c3_mem hx hy hb h hs) hn
  simp only [nxtP] at h9
  rw [hp.2] at h9; exact h9
theorem rch_chain (hx : sidedV m l xs xe) (hy : sidedV n l' ys ye) (hp : Rch xs ins mid p) : ∀ (q : P3), Rch ys mid outs q → q.1 = p.2.1 → Rch (cC m n xs ys) ins outs (p.1, q.2.1, p.2.2 * n + q.2.2) := by
  induction hp with
  | zero =>
    intro q hq
    induction hq with
    | zero => intro _; have e : (0 : Int) * n + 0 = 0 := by omega
              show Rch _ _ _ (0, 0, 0 * n + 0); rw [e]; exact .zero
    | @step q b hq hb hn ih =>
      intro he
      simp only [nxtB, Bool.and_eq_true, decide_eq_true_eq] at hn
      have hq0 := (hq.inR hy).1
      have he2 : pasI q.1 b.2.2.1 = 0 := he
      have hs : b.2.2.1 < 0 := by
        unfold pasI at he2; split at he2
        · assumption
        · omega
      unfold pasI at he2; rw [if_pos hs] at he2
      exact st3 hx hy (p := (0, 0, 0)) (ih he2) hb hn.1.1 hn.2 hs ⟨by simp only; omega, by have := hx.1; simp only; omega⟩
  | @step p a hp ha hn ih =>
    simp only [nxtB, Bool.and_eq_true, decide_eq_true_eq] at hn
    have hpr := hp.inR hx
    have hoa := ok_mem hx ha
    by_cases hs : a.2.2.2 < 0
    · intro q hq he
      have he2 : q.1 = p.2.1 := by
        have h9 : q.1 = pasI p.2.1 a.2.2.2 := he
        unfold pasI at h9; rw [if_pos hs] at h9; exact h9
      exact st2 hx hy (ih _ hq he2) ha hn.1.1 hn.1.2 hs (hq.inR hy).2.2
    · have hw := pas_pos (xs := mid) (a := p.2.1) hs
      have hm := hn.2
      rw [hw.2, Bool.and_eq_true, decide_eq_true_eq, decide_eq_true_eq] at hm
      intro q hq
      induction hq with
      | zero => intro he; have h9 : (0 : Int) = pasI p.2.1 a.2.2.2 := he
                rw [hw.1] at h9; have := hpr.2.1; omega
      | @step q b hq hb hnb ihb =>
        intro he
        simp only [nxtB, Bool.and_eq_true, decide_eq_true_eq] at hnb
        have he2 : pasI q.1 b.2.2.1 = pasI p.2.1 a.2.2.2 := he
        by_cases hsb : b.2.2.1 < 0
        · have he3 : q.1 = pasI p.2.1 a.2.2.2 := by unfold pasI at he2 ⊢; rw [if_pos hsb] at he2; exact he2
          exact st3 hx hy (p := nxtP p a) (ihb he3) hb hnb.1.1 hnb.2 hsb ⟨hoa.2.1.1, hoa.2.1.2⟩
        · have hwb := pas_pos (xs := mid) (a := q.1) hsb
          have hmb := hnb.1.2
          rw [hwb.2, Bool.and_eq_true, decide_eq_true_eq, decide_eq_true_eq] at hmb
          rw [hwb.1, hw.1] at he2
          have he3 : q.1 = p.2.1 := by omega
          exact st1 hx hy (ih _ hq he3) ha hb hn.1.1 hnb.1.1 hn.1.2 hnb.2 (by omega) (by rw [← hm.2, ← hmb.2, he3])
theorem fm_single {α β : Type} (f : α → β) : ∀ l : List α, l.flatMap (fun k => [f k]) = l.map f
  | [] => rfl
  | x :: r => by rw [List.flatMap_cons, fm_single f r]; rfl
theorem row_map {g : Nat → Nat → Bool} (i M : Nat) : rowF (fun i k => [g i k]) i M = (List.range M).map (g i) := fm_single _ _
theorem dbl_len {g : Nat → Nat → Bool} (M : Nat) : ∀ I, (dblF (fun i k => [g i k]) M I).length = I * M
  | 0 => by simp [dblF]
  | I + 1 => by
    have e : dblF (fun i k => [g i k]) M (I + 1) = dblF (fun i k => [g i k]) M I ++ rowF (fun i k => [g i k]) I M := by simp [dblF, List.range_succ]
    have e2 : (rowF (fun i k => [g i k]) I M).length = M := by rw [row_map]; simp
    rw [e, List.length_append, dbl_len M I, e2, Nat.succ_mul]
theorem dbl_get {g : Nat → Nat → Bool} {M : Nat} : ∀ {I i k : Nat}, i < I → k < M → (dblF (fun i k => [g i k]) M I).getD (i * M + k) false = g i k
  | 0, i, k, hi, _ => by omega
  | I + 1, i, k, hi, hk => by
    have e : dblF (fun i k => [g i k]) M (I + 1) = dblF (fun i k => [g i k]) M I ++ rowF (fun i k => [g i k]) I M := by simp [dblF, List.range_succ]
    have hl := dbl_len (g := g) M I
    rw [e]
    by_cases h : i < I
    · have h2 : i * M + k < I * M := by
        have : (i + 1) * M ≤ I * M := Nat.mul_le_mul_right M h
        rw [Nat.succ_mul] at this; omega
      rw [List.getD_eq_getElem?_getD, List.getElem?_append_left (by omega), ← List.getD_eq_getElem?_getD]; exact dbl_get h hk
    · have h2 : i = I := by omega
      subst h2
      rw [List.getD_eq_getElem?_getD, List.getElem?_append_right (by omega), hl, Nat.add_sub_cancel_left]
      rw [row_map]; simp [hk]
theorem rd_chain (hx : sidedV m l xs xe) (hy : sidedV n l' ys ye) (h1 : rdP xs ins mid xe) (h2 : rdP ys mid outs ye) : rdP (cC m n xs ys) ins outs (cE xe ye) := by
  obtain ⟨p, hp, hf⟩ := h1
  obtain ⟨q, hq, hg⟩ := h2
  simp only [finB, Bool.and_eq_true, decide_eq_true_eq] at hf hg
  refine ⟨_, rch_chain hx hy hp _ hq (by omega), ?_⟩
  simp only [finB, Bool.and_eq_true, decide_eq_true_eq]
  refine ⟨⟨hf.1.1, hg.1.2⟩, ?_⟩
  have hs := (hp.inR hx).2.2; have ht := (hq.inR hy).2.2
  have lx : (xe.length : Int) = m := hx.2.2.2.1
  have ly : (ye.length : Int) = n := hy.2.2.2.1
  have e : (p.2.2 * n + q.2.2).toNat = p.2.2.toNat * ye.length + q.2.2.toNat := by
    have h9 : ((p.2.2.toNat * ye.length + q.2.2.toNat : Nat) : Int) = p.2.2 * n + q.2.2 := by
      rw [Int.natCast_add, Int.natCast_mul, ly, Int.toNat_of_nonneg hs.1, Int.toNat_of_nonneg ht.1]
    omega
  rw [e]
  unfold cE
  rw [List.nil_append]
  have h9 := dbl_get (g := fun i k => xe.getD i false && ye.getD k false) (M := ye.length) (I := xe.length) (i := p.2.2.toNat) (k := q.2.2.toNat) (by omega) (by omega)
  refine Eq.trans h9 ?_
  rw [hf.2, hg.2]; rfl
end
end Go.WX
