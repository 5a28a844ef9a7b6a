/- The smallest machine of trees is its own smallest, state by state; no program. No condition. -/
import Derived.Test.YthemmoceomdccaaPlFv
namespace Go.WX
open Go

section
variable {cl : List Int} {L l l' : List R4} {f f' : R4} {i k : Nat}
theorem mb_mono (cl : List Int) (L : List R4) {j k : Nat} (h : j ≤ k) : (mbF cl L j).length ≤ (mbF cl L k).length := by
  have := (mbF_pre (cl := cl) (l := L) j (k - j)).length_le
  rwa [show j + (k - j) = k by omega] at this
theorem Nm.ltk (h : Nm cl L) (hi : i < k) (hk : k ≤ L.length) : cl.getD (rS L i).toNat 0 < ((mbF cl L k).length : Int) := by
  have h1 := h.ord i (by omega)
  have h2 := mb_mono cl L (show i + 1 ≤ k by omega)
  by_cases e : cl.getD (rS L i).toNat 0 = ((mbF cl L i).length : Int)
  · rw [mbF_yes e, List.length_append, List.length_singleton] at h2; omega
  · have h3 := mb_mono cl L (show i ≤ k by omega); omega
theorem put_sim (hN : Nm cl L) (hp : putF l f <+: L) (h : l'.map (·.1) = rgI (mbF cl L l.length).length) (hf : f'.1 = cl.getD f.1.toNat 0) : (putF l' f').map (·.1) = rgI (mbF cl L (putF l f).length).length := by
  rw [← putI_put, h, hf]
  have hpl := hp.length_le
  cases hh : hasS l f.1 with
  | true =>
    rw [putF_has hh] at hp hpl ⊢
    obtain ⟨i, hi, e⟩ := mem_found (hasS_mem.1 hh)
    rw [← e, ← pre_get hp hi]
    refine putI_has (rgI_mem.2 ⟨(hN.ord i (by omega)).1, hN.ltk hi hpl⟩)
  | false =>
    rw [putF_new hh] at hp hpl ⊢
    rw [List.length_append, List.length_singleton] at hpl ⊢
    have e : rS L l.length = f.1 := by rw [pre_get hp (by simp), rS, getD4_last]
    rw [← e]
    exact hN.put (by omega)
theorem put_same (hN : Nm cl L) (hp : putF l f <+: L) (hi : i < l.length) (e : cl.getD f.1.toNat 0 = cl.getD (rS L i).toNat 0) : (mbF cl L (putF l f).length).length = (mbF cl L l.length).length := by
  have hpl := hp.length_le
  cases hh : hasS l f.1 with
  | true => rw [putF_has hh]
  | false =>
    rw [putF_new hh] at hp hpl ⊢
    rw [List.length_append, List.length_singleton] at hpl ⊢
    have e2 : rS L l.length = f.1 := by rw [pre_get hp (by simp), rS, getD4_last]
    have h1 := hN.ltk hi (show l.length ≤ L.length by omega)
    rw [mbF_no (by rw [e2, e]; omega)]
/-- A class that has been seen has been seen at some place. -/
theorem seen (hN : Nm cl L) (hk : k < L.length) (h : ¬ cl.getD (rS L k).toNat 0 = ((mbF cl L k).length : Int)) : ∃ j, j < k ∧ cl.getD (rS L j).toNat 0 = cl.getD (rS L k).toNat 0 := by
  have h1 := hN.ord k hk
  obtain ⟨j, h2, _, h3⟩ := mb_class hN k (by omega) (cl.getD (rS L k).toNat 0).toNat (by omega)
  exact ⟨j, h2, by rw [h3]; omega⟩
theorem rg_get {n j : Nat} (h : l.map (·.1) = rgI n) (hj : j < n) : rS l j = (j : Int) := by
  rw [← map1_get, h, rgI_get hj]
theorem rg_len {n : Nat} (h : l.map (·.1) = rgI n) : l.length = n := by
  have := congrArg List.length h
  rwa [map1_len, rgI_len] at this
end

section
variable {a0 a1 : Int} {lf nx : List Int} {en : List Bool} {m : Int} {s2 s3 : List Int} {s4 : List Bool} {x y k : Nat}
theorem rA_pre (t : TV a0 a1 lf nx) (hk : k < (foundL a0 nx lf).length) (hx : x ≤ k) : rowA a0 nx (genF a0 nx lf k) k x <+: foundL a0 nx lf := by
  have h0 := gen_at t hk
  have q1 := rowA_mono a0 nx (genF a0 nx lf k) k x (k - x)
  rw [show x + (k - x) = k by omega] at q1
  have q2 := q1.trans (rowB_pre a0 nx _ k (k + 1))
  rw [← genF_succ h0] at q2
  exact q2.trans (gen_found t _)
theorem rB_pre (t : TV a0 a1 lf nx) (hk : k < (foundL a0 nx lf).length) (hy : y ≤ k + 1) : rowB a0 nx (rowA a0 nx (genF a0 nx lf k) k k) k y <+: foundL a0 nx lf := by
  have h0 := gen_at t hk
  have q1 := rowB_mono a0 nx (rowA a0 nx (genF a0 nx lf k) k k) k y (k + 1 - y)
  rw [show y + (k + 1 - y) = k + 1 by omega, ← genF_succ h0] at q1
  exact q1.trans (gen_found t _)
/-- Joins of what came before are found before. -/
theorem gen_join (t : TV a0 a1 lf nx) (hk : k ≤ (foundL a0 nx lf).length) (hx : x < k) (hy : y < k) : nx.getD (rS (foundL a0 nx lf) x * a0 + rS (foundL a0 nx lf) y).toNat 0 ∈ (genF a0 nx lf k).map (·.1) := by
  by_cases e : x < y
  · have h0 := gen_at t (show y < (foundL a0 nx lf).length by omega)
    obtain ⟨_, h2⟩ := rowA_ok t (genF_ok t y) h0 x (by omega)
    have h3 := putF_mem (rowA a0 nx (genF a0 nx lf y) y x) (pairF a0 nx (rowA a0 nx (genF a0 nx lf y) y x) x y)
    have p0 := rA_pre t (show y < (foundL a0 nx lf).length by omega) (show x ≤ y by omega)
    rw [pre_get p0 (by omega), pre_get p0 (by omega)]
    have q1 := rowA_mono a0 nx (genF a0 nx lf y) y (x + 1) (y - (x + 1))
    rw [show x + 1 + (y - (x + 1)) = y by omega] at q1
    have q2 := q1.trans (rowB_pre a0 nx _ y (y + 1))
    rw [← genF_succ h0] at q2
    have q3 := q2.trans (genF_mono a0 nx lf (y + 1) (k - (y + 1)))
    rw [show y + 1 + (k - (y + 1)) = k by omega] at q3
    exact pre_mem q3 h3
  · have h0 := gen_at t (show x < (foundL a0 nx lf).length by omega)
    obtain ⟨h1, h2⟩ := rowA_ok t (genF_ok t x) h0 x (Nat.le_refl _)
    obtain ⟨_, h4⟩ := rowB_ok t h1 (Nat.lt_of_lt_of_le h0 h2) y (by omega)
    have h3 := putF_mem (rowB a0 nx (rowA a0 nx (genF a0 nx lf x) x x) x y) (pairF a0 nx (rowB a0 nx (rowA a0 nx (genF a0 nx lf x) x x) x y) x y)
    have p0 := rB_pre t (show x < (foundL a0 nx lf).length by omega) (show y ≤ x + 1 by omega)
    rw [pre_get p0 (by omega), pre_get p0 (by omega)]
    have q1 := rowB_mono a0 nx (rowA a0 nx (genF a0 nx lf x) x x) x (y + 1) (x + 1 - (y + 1))
    rw [show y + 1 + (x + 1 - (y + 1)) = x + 1 by omega, ← genF_succ h0] at q1
    have q3 := q1.trans (genF_mono a0 nx lf (x + 1) (k - (x + 1)))
    rw [show x + 1 + (k - (x + 1)) = k by omega] at q3
    exact pre_mem q3 h3
theorem sm_next (h : SmOf a0 lf nx en m s2 s3 s4) (t : TV a0 a1 lf nx) {i j c d : Nat} (hi : i < (foundL a0 nx lf).length) (hj : j < (foundL a0 nx lf).length)
    (hc : clI a0 en nx (foundL a0 nx lf) i = (c : Int)) (hd : clI a0 en nx (foundL a0 nx lf) j = (d : Int)) :
    s3.getD ((c : Int) * m + (d : Int)).toNat 0 = (clsF a0 en nx (foundL a0 nx lf)).getD (nx.getD (rS (foundL a0 nx lf) i * a0 + rS (foundL a0 nx lf) j).toNat 0).toNat 0 := by
  have hN := nm_of (en := en) (nx := nx) (found_ok t) (found_pos t)
  have hcm := hN.lt hi; have hdm := hN.lt hj
  have hc2 : (clsF a0 en nx (foundL a0 nx lf)).getD (rS (foundL a0 nx lf) i).toNat 0 = (c : Int) := hc
  have hd2 : (clsF a0 en nx (foundL a0 nx lf)).getD (rS (foundL a0 nx lf) j).toNat 0 = (d : Int) := hd
  have hj2 := join_class (en := en) t hi hj hc hd (by omega) (by omega)
  rw [← hj2]
  have e : ((c : Int) * m + (d : Int)).toNat = c * (mbF (clsF a0 en nx (foundL a0 nx lf)) (foundL a0 nx lf) (foundL a0 nx lf).length).length + d := by
    rw [h.hm]
    have e2 : (c : Int) * ((mbF (clsF a0 en nx (foundL a0 nx lf)) (foundL a0 nx lf) (foundL a0 nx lf).length).length : Int) + (d : Int) = ((c * (mbF (clsF a0 en nx (foundL a0 nx lf)) (foundL a0 nx lf) (foundL a0 nx lf).length).length + d : Nat) : Int) := by push_cast; rfl
    rw [e2, Int.toNat_natCast]
  have hn3 : ∀ q : Nat, s3.getD q 0 = _ := fun q => congrArg (fun z : List Int => z.getD q 0) h.hnx
  rw [e, hn3]
  exact nxL_get (by omega) _ (by omega)

/-! ### The search over the smallest machine goes the same way -/
noncomputable abbrev gN (a0 : Int) (en : List Bool) (nx lf : List Int) (k : Nat) : Nat := (mbF (clsF a0 en nx (foundL a0 nx lf)) (foundL a0 nx lf) k).length
theorem gN_mono {j k : Nat} (h : j ≤ k) : gN a0 en nx lf j ≤ gN a0 en nx lf k := mb_mono _ _ h
theorem sim_lf (t : TV a0 a1 lf nx) (h : SmOf a0 lf nx en m s2 s3 s4) : ∀ k : Nat, k ≤ lf.length → (lfF s2 k).map (·.1) = rgI (gN a0 en nx lf (lfF lf k).length)
  | 0, _ => rfl
  | k + 1, hk => by
    have hN := nm_of (en := en) (nx := nx) (found_ok t) (found_pos t)
    have h2 := lfF_mono lf (k + 1) (lf.length - (k + 1))
    rw [show k + 1 + (lf.length - (k + 1)) = lf.length by omega] at h2
    exact put_sim hN (h2.trans (gen_found t 0)) (sim_lf t h k (by omega)) (by show s2.getD k 0 = _; rw [h.hlf, mpL_get (by omega)])
theorem sim_gen (t : TV a0 a1 lf nx) (h : SmOf a0 lf nx en m s2 s3 s4) : ∀ k : Nat, k ≤ (foundL a0 nx lf).length → (genF m s3 s2 (gN a0 en nx lf k)).map (·.1) = rgI (gN a0 en nx lf (genF a0 nx lf k).length)
  | 0, _ => by
    have e : s2.length = lf.length := by rw [h.hlf, mpL_len]
    show (lfF s2 s2.length).map (·.1) = rgI (gN a0 en nx lf (lfF lf lf.length).length)
    rw [e]; exact sim_lf t h _ (Nat.le_refl _)
  | k + 1, hk => by
    have hF := found_ok t
    have hC := cls_found t
    have hN := nm_of (en := en) (nx := nx) hF (found_pos t)
    have ih := sim_gen t h k (by omega)
    have hk2 : k < (foundL a0 nx lf).length := by omega
    have h0 := gen_at t hk2
    have hgp : (genF a0 nx lf k) <+: foundL a0 nx lf := gen_found t k
    rw [show genF a0 nx lf (k + 1) = rowB a0 nx (rowA a0 nx (genF a0 nx lf k) k k) k (k + 1) from genF_succ h0]
    have fA : ∀ x, x ≤ k → (pairF a0 nx (rowA a0 nx (genF a0 nx lf k) k x) x k).1 = nx.getD (rS (foundL a0 nx lf) x * a0 + rS (foundL a0 nx lf) k).toNat 0 := fun x hx => by
      have p0 := rA_pre t hk2 hx
      have h2 := (rowA_ok t (genF_ok t k) h0 x hx).2
      rw [pre_get p0 (show x < _ by omega), pre_get p0 (show k < _ by omega)]; rfl
    have fB : ∀ y, y ≤ k → (pairF a0 nx (rowB a0 nx (rowA a0 nx (genF a0 nx lf k) k k) k y) k y).1 = nx.getD (rS (foundL a0 nx lf) k * a0 + rS (foundL a0 nx lf) y).toNat 0 := fun y hy => by
      have p0 := rB_pre t hk2 (show y ≤ k + 1 by omega)
      obtain ⟨h1, h2⟩ := rowA_ok t (genF_ok t k) h0 k (Nat.le_refl _)
      have h4 := (rowB_ok t h1 (Nat.lt_of_lt_of_le h0 h2) y (by omega)).2
      rw [pre_get p0 (show k < _ by omega), pre_get p0 (show y < _ by omega)]; rfl
    by_cases e : (clsF a0 en nx (foundL a0 nx lf)).getD (rS (foundL a0 nx lf) k).toNat 0 = ((mbF (clsF a0 en nx (foundL a0 nx lf)) (foundL a0 nx lf) k).length : Int)
    · -- a class that is new
      have hg1 : gN a0 en nx lf (k + 1) = gN a0 en nx lf k + 1 := by show (mbF _ _ (k + 1)).length = _; rw [mbF_yes e, List.length_append]; rfl
      have hgl : gN a0 en nx lf k + 1 ≤ gN a0 en nx lf (genF a0 nx lf k).length := by rw [← hg1]; exact gN_mono (by omega)
      have hl0 := rg_len ih
      have hA : ∀ x, x ≤ k → (rowA m s3 (genF m s3 s2 (gN a0 en nx lf k)) (gN a0 en nx lf k) (gN a0 en nx lf x)).map (·.1) = rgI (gN a0 en nx lf (rowA a0 nx (genF a0 nx lf k) k x).length) := by
        intro x
        induction x with
        | zero => intro _; exact ih
        | succ x ihx =>
          intro hx
          have ix := ihx (by omega)
          have p1 : putF (rowA a0 nx (genF a0 nx lf k) k x) (pairF a0 nx (rowA a0 nx (genF a0 nx lf k) k x) x k) <+: foundL a0 nx lf := rA_pre t hk2 hx
          have h2 := (rowA_ok t (genF_ok t k) h0 x (by omega)).2
          have hgx := gN_mono (a0 := a0) (en := en) (nx := nx) (lf := lf) (show (genF a0 nx lf k).length ≤ (rowA a0 nx (genF a0 nx lf k) k x).length by omega)
          by_cases e2 : (clsF a0 en nx (foundL a0 nx lf)).getD (rS (foundL a0 nx lf) x).toNat 0 = ((mbF (clsF a0 en nx (foundL a0 nx lf)) (foundL a0 nx lf) x).length : Int)
          · have hg2 : gN a0 en nx lf (x + 1) = gN a0 en nx lf x + 1 := by show (mbF _ _ (x + 1)).length = _; rw [mbF_yes e2, List.length_append]; rfl
            have hg3 := gN_mono (a0 := a0) (en := en) (nx := nx) (lf := lf) (show x + 1 ≤ k by omega)
            rw [hg2]
            refine put_sim hN p1 ix ?_
            show s3.getD (rS _ _ * m + rS _ _).toNat 0 = _
            rw [rg_get ix (by omega), rg_get ix (by omega), fA x (by omega)]
            exact sm_next h t (by omega) hk2 e2 e
          · have hg2 : gN a0 en nx lf (x + 1) = gN a0 en nx lf x := by show (mbF _ _ (x + 1)).length = _; rw [mbF_no e2]
            obtain ⟨j, hj, ej⟩ := seen hN (show x < (foundL a0 nx lf).length by omega) e2
            have hjm : nx.getD (rS (foundL a0 nx lf) j * a0 + rS (foundL a0 nx lf) k).toNat 0 ∈ (rowA a0 nx (genF a0 nx lf k) k x).map (·.1) := by
              have h3 := putF_mem (rowA a0 nx (genF a0 nx lf k) k j) (pairF a0 nx (rowA a0 nx (genF a0 nx lf k) k j) j k)
              rw [fA j (by omega)] at h3
              have q1 := rowA_mono a0 nx (genF a0 nx lf k) k (j + 1) (x - (j + 1))
              rw [show j + 1 + (x - (j + 1)) = x by omega] at q1
              exact pre_mem q1 h3
            obtain ⟨z, hz, ez⟩ := mem_found hjm
            have hz2 := pre_get (rA_pre t hk2 (show x ≤ k by omega)) hz
            have hcg := (clI_cong hF hC (show x < (foundL a0 nx lf).length by omega) (show j < (foundL a0 nx lf).length by omega) (en := en) (show clI a0 en nx _ x = clI a0 en nx _ j from ej.symm)).2 k hk2
            have hsame := put_same hN p1 hz (by rw [fA x (by omega), hz2, ez]; exact hcg.1)
            rw [hg2, show gN a0 en nx lf (rowA a0 nx (genF a0 nx lf k) k (x + 1)).length = gN a0 en nx lf (rowA a0 nx (genF a0 nx lf k) k x).length from hsame]
            exact ix
      have iA := hA k (Nat.le_refl _)
      have h2k := (rowA_ok t (genF_ok t k) h0 k (Nat.le_refl _))
      have hB : ∀ y, y ≤ k + 1 → (rowB m s3 (rowA m s3 (genF m s3 s2 (gN a0 en nx lf k)) (gN a0 en nx lf k) (gN a0 en nx lf k)) (gN a0 en nx lf k) (gN a0 en nx lf y)).map (·.1) = rgI (gN a0 en nx lf (rowB a0 nx (rowA a0 nx (genF a0 nx lf k) k k) k y).length) := by
        intro y
        induction y with
        | zero => intro _; exact iA
        | succ y ihy =>
          intro hy
          have iy := ihy (by omega)
          have p1 : putF (rowB a0 nx (rowA a0 nx (genF a0 nx lf k) k k) k y) (pairF a0 nx (rowB a0 nx (rowA a0 nx (genF a0 nx lf k) k k) k y) k y) <+: foundL a0 nx lf := rB_pre t hk2 hy
          have h4 := (rowB_ok t h2k.1 (Nat.lt_of_lt_of_le h0 h2k.2) y (by omega)).2
          have hgx := gN_mono (a0 := a0) (en := en) (nx := nx) (lf := lf) (show (genF a0 nx lf k).length ≤ (rowB a0 nx (rowA a0 nx (genF a0 nx lf k) k k) k y).length by have := h2k.2; omega)
          by_cases e2 : (clsF a0 en nx (foundL a0 nx lf)).getD (rS (foundL a0 nx lf) y).toNat 0 = ((mbF (clsF a0 en nx (foundL a0 nx lf)) (foundL a0 nx lf) y).length : Int)
          · have hg2 : gN a0 en nx lf (y + 1) = gN a0 en nx lf y + 1 := by show (mbF _ _ (y + 1)).length = _; rw [mbF_yes e2, List.length_append]; rfl
            have hg3 := gN_mono (a0 := a0) (en := en) (nx := nx) (lf := lf) (show y ≤ k by omega)
            rw [hg2]
            refine put_sim hN p1 iy ?_
            show s3.getD (rS _ _ * m + rS _ _).toNat 0 = _
            rw [rg_get iy (by omega), rg_get iy (by omega), fB y (by omega)]
            exact sm_next h t hk2 (by omega) e e2
          · have hg2 : gN a0 en nx lf (y + 1) = gN a0 en nx lf y := by show (mbF _ _ (y + 1)).length = _; rw [mbF_no e2]
            obtain ⟨j, hj, ej⟩ := seen hN (show y < (foundL a0 nx lf).length by omega) e2
            have hjm : nx.getD (rS (foundL a0 nx lf) k * a0 + rS (foundL a0 nx lf) j).toNat 0 ∈ (rowB a0 nx (rowA a0 nx (genF a0 nx lf k) k k) k y).map (·.1) := by
              have h3 := putF_mem (rowB a0 nx (rowA a0 nx (genF a0 nx lf k) k k) k j) (pairF a0 nx (rowB a0 nx (rowA a0 nx (genF a0 nx lf k) k k) k j) k j)
              rw [fB j (by omega)] at h3
              have q1 := rowB_mono a0 nx (rowA a0 nx (genF a0 nx lf k) k k) k (j + 1) (y - (j + 1))
              rw [show j + 1 + (y - (j + 1)) = y by omega] at q1
              exact pre_mem q1 h3
            obtain ⟨z, hz, ez⟩ := mem_found hjm
            have hz2 := pre_get (rB_pre t hk2 (show y ≤ k + 1 by omega)) hz
            have hcg := (clI_cong hF hC (show y < (foundL a0 nx lf).length by omega) (show j < (foundL a0 nx lf).length by omega) (en := en) (show clI a0 en nx _ y = clI a0 en nx _ j from ej.symm)).2 k hk2
            have hsame := put_same hN p1 hz (by rw [fB y (by omega), hz2, ez]; exact hcg.2)
            rw [hg2, show gN a0 en nx lf (rowB a0 nx (rowA a0 nx (genF a0 nx lf k) k k) k (y + 1)).length = gN a0 en nx lf (rowB a0 nx (rowA a0 nx (genF a0 nx lf k) k k) k y).length from hsame]
            exact iy
      have iB := hB (k + 1) (Nat.le_refl _)
      rw [hg1] at iB ⊢
      rw [genF_succ (by rw [hl0]; omega)]
      exact iB
    · -- a class that was seen
      obtain ⟨q, hq, eq⟩ := seen hN hk2 e
      have hg1 : gN a0 en nx lf (k + 1) = gN a0 en nx lf k := by show (mbF _ _ (k + 1)).length = _; rw [mbF_no e]
      have hcg := (clI_cong hF hC hk2 (show q < (foundL a0 nx lf).length by omega) (en := en) (show clI a0 en nx _ k = clI a0 en nx _ q from eq.symm)).2
      have hA : ∀ x, x ≤ k → gN a0 en nx lf (rowA a0 nx (genF a0 nx lf k) k x).length = gN a0 en nx lf (genF a0 nx lf k).length := by
        intro x
        induction x with
        | zero => intro _; rfl
        | succ x ihx =>
          intro hx
          have p1 : putF (rowA a0 nx (genF a0 nx lf k) k x) (pairF a0 nx (rowA a0 nx (genF a0 nx lf k) k x) x k) <+: foundL a0 nx lf := rA_pre t hk2 hx
          obtain ⟨z, hz, ez⟩ := mem_found (gen_join t (by omega) (show x < k by omega) hq)
          have h2 := (rowA_ok t (genF_ok t k) h0 x (by omega)).2
          have hz2 := pre_get hgp hz
          have hsame := put_same hN p1 (show z < _ by omega) (by rw [fA x (by omega), hz2, ez]; exact (hcg x (by omega)).2)
          exact Eq.trans hsame (ihx (by omega))
      have h2k := (rowA_ok t (genF_ok t k) h0 k (Nat.le_refl _))
      have hB : ∀ y, y ≤ k + 1 → gN a0 en nx lf (rowB a0 nx (rowA a0 nx (genF a0 nx lf k) k k) k y).length = gN a0 en nx lf (genF a0 nx lf k).length := by
        intro y
        induction y with
        | zero => intro _; exact hA k (Nat.le_refl _)
        | succ y ihy =>
          intro hy
          have p1 : putF (rowB a0 nx (rowA a0 nx (genF a0 nx lf k) k k) k y) (pairF a0 nx (rowB a0 nx (rowA a0 nx (genF a0 nx lf k) k k) k y) k y) <+: foundL a0 nx lf := rB_pre t hk2 hy
          have h4 := (rowB_ok t h2k.1 (Nat.lt_of_lt_of_le h0 h2k.2) y (by omega)).2
          have hy2 : ∃ y2, y2 < k ∧ (clsF a0 en nx (foundL a0 nx lf)).getD (nx.getD (rS (foundL a0 nx lf) q * a0 + rS (foundL a0 nx lf) y).toNat 0).toNat 0 = (clsF a0 en nx (foundL a0 nx lf)).getD (nx.getD (rS (foundL a0 nx lf) q * a0 + rS (foundL a0 nx lf) y2).toNat 0).toNat 0 := by
            by_cases e3 : y < k
            · exact ⟨y, e3, rfl⟩
            · obtain rfl : y = k := by omega
              exact ⟨q, hq, (hcg q (by omega)).2⟩
          obtain ⟨y2, hyk, ey⟩ := hy2
          obtain ⟨z, hz, ez⟩ := mem_found (gen_join t (by omega) hq hyk)
          have hz2 := pre_get hgp hz
          have hsame := put_same hN p1 (show z < _ by have := h2k.2; omega) (by rw [fB y (by omega), hz2, ez, ← ey]; exact (hcg y (by omega)).1)
          exact Eq.trans hsame (ihy (by omega))
      rw [hg1, show gN a0 en nx lf (rowB a0 nx (rowA a0 nx (genF a0 nx lf k) k k) k (k + 1)).length = gN a0 en nx lf (genF a0 nx lf k).length from hB _ (Nat.le_refl _)]
      exact ih
theorem sm_found (t : TV a0 a1 lf nx) (he : (en.length : Int) = a0) (h : SmOf a0 lf nx en m s2 s3 s4) : (foundL m s3 s2).map (·.1) = rgI m.toNat := by
  have hs := (sm_tv t he h).1
  have h1 := sim_gen t h (foundL a0 nx lf).length (Nat.le_refl _)
  have e : genF a0 nx lf (foundL a0 nx lf).length = foundL a0 nx lf := by
    have h2 := (gen_found t (foundL a0 nx lf).length).length_le
    exact genF_done t h2
  rw [e] at h1
  have h2 := rg_len h1
  rw [genF_done hs (by rw [h2]; exact Nat.le_refl _)] at h1
  rw [h1, h.hm, Int.toNat_natCast]

/-! ### Its classes are its states -/
theorem sm_inj (t : TV a0 a1 lf nx) (he : (en.length : Int) = a0) (h : SmOf a0 lf nx en m s2 s3 s4) {c d : Nat} (hc : (c : Int) < m) (hd : (d : Int) < m) (e : (clsF m s4 s3 (foundL m s3 s2)).getD c 0 = (clsF m s4 s3 (foundL m s3 s2)).getD d 0) : c = d := by
  have hF := found_ok t
  have hC := cls_found t
  have hN := nm_of (en := en) (nx := nx) hF (found_pos t)
  obtain ⟨hs, hs4, _⟩ := sm_tv t he h
  have hF2 := found_ok hs
  have hC2 := cls_found hs
  have hfd := sm_found t he h
  have hl2 := rg_len hfd
  have hcl : ∀ i, i < (foundL a0 nx lf).length → 0 ≤ clI a0 en nx (foundL a0 nx lf) i ∧ clI a0 en nx (foundL a0 nx lf) i < m := fun i hi => by
    rw [h.hm]; exact ⟨(hN.ord i hi).1, hN.lt hi⟩
  have hr : ∀ j : Nat, (j : Int) < m → rS (foundL m s3 s2) j = (j : Int) := fun j hj => rg_get hfd (by omega)
  have hcl2 : ∀ j : Nat, (j : Int) < m → clI m s4 s3 (foundL m s3 s2) j = (clsF m s4 s3 (foundL m s3 s2)).getD j 0 := fun j hj => by rw [clI, hr j hj, Int.toNat_natCast]
  obtain ⟨i, hi, _, ei⟩ := mb_class hN _ (Nat.le_refl _) c (by have := h.hm; omega)
  obtain ⟨j, hj, _, ej⟩ := mb_class hN _ (Nat.le_refl _) d (by have := h.hm; omega)
  have key := clI_coarse (en := en) (nx := nx) hF (fun i j => (clsF m s4 s3 (foundL m s3 s2)).getD (clI a0 en nx (foundL a0 nx lf) i).toNat 0 = (clsF m s4 s3 (foundL m s3 s2)).getD (clI a0 en nx (foundL a0 nx lf) j).toNat 0) (fun i j hi hj hR => ?_) (fun i j k hi hj hk hR => ?_) hi hj ?_
  · have h1 : clI a0 en nx (foundL a0 nx lf) i = (c : Int) := ei
    have h2 : clI a0 en nx (foundL a0 nx lf) j = (d : Int) := ej
    rw [h1, h2] at key; omega
  · have ci := hcl i hi; have cj := hcl j hj
    have h1 := (clI_cong (en := s4) hF2 hC2 (i := (clI a0 en nx (foundL a0 nx lf) i).toNat) (j := (clI a0 en nx (foundL a0 nx lf) j).toNat) (by omega) (by omega) (by
      rw [hcl2 _ (by omega), hcl2 _ (by omega)]; exact hR)).1
    rw [hr _ (by omega), hr _ (by omega)] at h1
    have g : ∀ i, i < (foundL a0 nx lf).length → s4.getD (((clI a0 en nx (foundL a0 nx lf) i).toNat : Nat) : Int).toNat false = en.getD (rS (foundL a0 nx lf) i).toNat false := fun i hi => by
      have ci := hcl i hi
      have hm := h.hm
      rw [Int.toNat_natCast, h.hen, enL_get (by omega)]
      obtain ⟨i2, p1, p2, p3⟩ := mb_class hN _ (Nat.le_refl _) (clI a0 en nx (foundL a0 nx lf) i).toNat (by omega)
      rw [p2]
      exact (clI_cong hF hC p1 hi (en := en) (by rw [clI, p3]; omega)).1
    rw [g i hi, g j hj] at h1
    exact h1
  · have ci := hcl i hi; have cj := hcl j hj; have ck := hcl k hk
    obtain ⟨z1, b1, b2⟩ := hC i k hi hk
    obtain ⟨z2, b3, b4⟩ := hC j k hj hk
    obtain ⟨z3, d1, d2⟩ := hC k i hk hi
    obtain ⟨z4, d3, d4⟩ := hC k j hk hj
    have hcg := (clI_cong (en := s4) hF2 hC2 (i := (clI a0 en nx (foundL a0 nx lf) i).toNat) (j := (clI a0 en nx (foundL a0 nx lf) j).toNat) (by omega) (by omega) (by
      rw [hcl2 _ (by omega), hcl2 _ (by omega)]; exact hR)).2 (clI a0 en nx (foundL a0 nx lf) k).toNat (by omega)
    rw [hr _ (by omega), hr _ (by omega), hr _ (by omega)] at hcg
    have g : ∀ i k z, i < (foundL a0 nx lf).length → k < (foundL a0 nx lf).length → nx.getD (rS (foundL a0 nx lf) i * a0 + rS (foundL a0 nx lf) k).toNat 0 = rS (foundL a0 nx lf) z →
        s3.getD ((((clI a0 en nx (foundL a0 nx lf) i).toNat : Nat) : Int) * m + (((clI a0 en nx (foundL a0 nx lf) k).toNat : Nat) : Int)).toNat 0 = clI a0 en nx (foundL a0 nx lf) z := fun i k z hi hk hz => by
      have ci := hcl i hi; have ck := hcl k hk
      rw [sm_next h t hi hk (c := (clI a0 en nx (foundL a0 nx lf) i).toNat) (d := (clI a0 en nx (foundL a0 nx lf) k).toNat) (by omega) (by omega), hz]; rfl
    rw [g i k z1 hi hk b2, g j k z2 hj hk b4, g k i z3 hk hi d2, g k j z4 hk hj d4] at hcg
    exact ⟨⟨z1, z2, b1, b3, b2, b4, hcg.1⟩, ⟨z3, z4, d1, d3, d2, d4, hcg.2⟩⟩
  · have h1 : clI a0 en nx (foundL a0 nx lf) i = (c : Int) := ei
    have h2 : clI a0 en nx (foundL a0 nx lf) j = (d : Int) := ej
    show (clsF m s4 s3 (foundL m s3 s2)).getD (clI a0 en nx (foundL a0 nx lf) i).toNat 0 = (clsF m s4 s3 (foundL m s3 s2)).getD (clI a0 en nx (foundL a0 nx lf) j).toNat 0
    rw [h1, h2]; simpa using e
theorem sm_id (t : TV a0 a1 lf nx) (he : (en.length : Int) = a0) (h : SmOf a0 lf nx en m s2 s3 s4) : ∀ k : Nat, (k : Int) ≤ m → mbF (clsF m s4 s3 (foundL m s3 s2)) (foundL m s3 s2) k = rgI k ∧ ∀ c, c < k → (clsF m s4 s3 (foundL m s3 s2)).getD c 0 = (c : Int)
  | 0, _ => ⟨rfl, fun c hc => absurd hc (Nat.not_lt_zero _)⟩
  | k + 1, hk => by
    obtain ⟨h1, h2⟩ := sm_id t he h k (by omega)
    have hs := (sm_tv t he h).1
    have hN2 := nm_of (en := s4) (nx := s3) (found_ok hs) (found_pos hs)
    have hfd := sm_found t he h
    have hl2 := rg_len hfd
    have hr : rS (foundL m s3 s2) k = (k : Int) := rg_get hfd (by omega)
    have h3 := hN2.ord k (by omega)
    rw [hr, Int.toNat_natCast, h1, rgI_len] at h3
    have h4 : (clsF m s4 s3 (foundL m s3 s2)).getD k 0 = (k : Int) := by
      rcases Int.lt_or_eq_of_le h3.2 with h5 | h5
      · have h6 := h2 ((clsF m s4 s3 (foundL m s3 s2)).getD k 0).toNat (by omega)
        have h7 := sm_inj t he h (c := ((clsF m s4 s3 (foundL m s3 s2)).getD k 0).toNat) (d := k) (by omega) (by omega) (by rw [h6]; omega)
        omega
      · exact h5
    refine ⟨?_, fun c hc => ?_⟩
    · rw [mbF_yes (by rw [hr, Int.toNat_natCast, h4, h1, rgI_len]), h1, hr, rgI_succ]
    · rcases Nat.lt_succ_iff_lt_or_eq.1 hc with h5 | rfl
      · exact h2 c h5
      · exact h4
/-- The smallest of a smallest machine is the same. -/
theorem sm_twice (t : TV a0 a1 lf nx) (he : (en.length : Int) = a0) (h : SmOf a0 lf nx en m s2 s3 s4) {m' : Int} {u2 u3 : List Int} {u4 : List Bool} (g : SmOf m s2 s3 s4 m' u2 u3 u4) : m' = m ∧ u2 = s2 ∧ u3 = s3 ∧ u4 = s4 := by
  obtain ⟨hs, hs4, _⟩ := sm_tv t he h
  have hfd := sm_found t he h
  have hl2 := rg_len hfd
  have hm0 := hs.s
  obtain ⟨h1, h2⟩ := sm_id t he h m.toNat (by omega)
  have hmb : mbF (clsF m s4 s3 (foundL m s3 s2)) (foundL m s3 s2) (foundL m s3 s2).length = rgI m.toNat := by rw [hl2]; exact h1
  have hv : ∀ v : Int, 0 ≤ v ∧ v ≤ m - 1 → (clsF m s4 s3 (foundL m s3 s2)).getD v.toNat 0 = v := fun v hv => by rw [h2 v.toNat (by omega)]; omega
  refine ⟨by rw [g.hm, hmb, rgI_len]; omega, ?_, ?_, ?_⟩
  · rw [g.hlf, mpL]
    refine List.ext_getElem (by simp) fun k hk1 hk2 => ?_
    have h3 := allIn_get hs.li hk2
    have e : s2.getD k 0 = s2[k] := by rw [List.getD_eq_getElem?_getD, List.getElem?_eq_getElem hk2]; rfl
    rw [List.getElem_map, ← e]; exact hv _ h3
  · rw [g.hnx, hmb]
    have hln : (s3.length : Int) = m * m := hs.nl
    have hlm : s3.length = m.toNat * m.toNat := by
      have : ((m.toNat * m.toNat : Nat) : Int) = m * m := by push_cast; rw [Int.toNat_of_nonneg (by omega)]
      omega
    refine List.ext_getElem (by rw [nxL_len, rgI_len, hlm]) fun k hk1 hk2 => ?_
    have hm1 : 0 < m.toNat := by omega
    have hx : k / m.toNat < m.toNat := Nat.div_lt_of_lt_mul (by omega)
    have hy : k % m.toNat < m.toNat := Nat.mod_lt _ hm1
    have hkk : k / m.toNat * m.toNat + k % m.toNat = k := by rw [Nat.mul_comm]; exact Nat.div_add_mod k m.toNat
    have h3 := nxL_get (a0 := m) (nx := s3) (cl := clsF m s4 s3 (foundL m s3 s2)) (mb := rgI m.toNat) (x := k / m.toNat) (y := k % m.toNat) (by rw [rgI_len]; exact hy) (rgI m.toNat) (by rw [rgI_len]; exact hx)
    rw [rgI_get hx, rgI_get hy, rgI_len, hkk] at h3
    have e2 : (((k / m.toNat : Nat) : Int) * m + ((k % m.toNat : Nat) : Int)).toNat = k := by
      have : ((k / m.toNat : Nat) : Int) * m + ((k % m.toNat : Nat) : Int) = ((k / m.toNat * m.toNat + k % m.toNat : Nat) : Int) := by push_cast; rw [Int.toNat_of_nonneg (by omega)]
      rw [this, Int.toNat_natCast, hkk]
    rw [e2, hv _ (allIn_get hs.ni hk2)] at h3
    have e3 : ∀ (xs : List Int) (hk : k < xs.length), xs.getD k 0 = xs[k] := fun xs hk => by rw [List.getD_eq_getElem?_getD, List.getElem?_eq_getElem hk]; rfl
    rw [e3 _ hk1, e3 _ hk2] at h3
    exact h3
  · rw [g.hen, hmb, enL]
    refine List.ext_getElem (by rw [List.length_map, rgI_len]; omega) fun k hk1 hk2 => ?_
    have hk3 : k < m.toNat := by omega
    have e : (rgI m.toNat)[k]'(by rw [rgI_len]; exact hk3) = (k : Int) := by simp [rgI]
    rw [List.getElem_map, e, Int.toNat_natCast, List.getD_eq_getElem?_getD, List.getElem?_eq_getElem hk2]; rfl
end
end Go.WX
