/- Plain laws on plain changes: what a word becomes, letters for letters; no program. No condition. -/
import Derived.Test.YthemmoceomdccaaPlK
namespace Go.WX
open Go

theorem idxB_y1 {p : Nat → Bool} {k : Nat} (h : 0 ≤ idxB p k) : idxB p k = idxB p (k + 1) := by
  rcases idxB_spec p k with ⟨h2, _⟩ | ⟨j, h2, h3, h4, h5⟩
  · omega
  · rw [h2]; exact idxB_at (by omega) h5 h4
theorem idxB_y2 {p : Nat → Bool} {k : Nat} (h : idxB p k < 0) (hp : p k = true) : (k : Int) = idxB p (k + 1) := idxB_at (by omega) (idxB_neg h) hp
theorem idxB_y3 {p : Nat → Bool} {k : Nat} (h : idxB p k < 0) (hp : p k = false) : idxB p k = idxB p (k + 1) := by
  have e : idxB p (k + 1) = -1 := (idxB_no (fun j hj => by rcases Nat.lt_succ_iff_lt_or_eq.1 hj with h9 | rfl; exact idxB_neg h j h9; exact hp)).symm
  have e2 : idxB p k = -1 := (idxB_no (idxB_neg h)).symm
  rw [e, e2]
theorem idxB_zero (p : Nat → Bool) : (-1 : Int) = idxB p 0 := idxB_no (fun j h => by omega)
/-- No change has a side. -/
def platP (cs : List C4) (k : Nat) : Bool := decide (0 < ((cs.getD k d4).1.length : Int) + ((cs.getD k d4).2.2.2.length : Int))
def platB (cs : List C4) : Bool := decide (idxB (platP cs) cs.length < 0)
def plnB (cs : List C4) (L : Int) : Bool := listB cs L && platB cs
theorem pln_n1 {cs : List C4} {L : Int} (h : listB cs L = false) : false = plnB cs L := by simp [plnB, h]
theorem pln_e {cs : List C4} {L : Int} (h : listB cs L = true) : (!decide (0 ≤ idxB (platP cs) cs.length)) = plnB cs L := by
  unfold plnB platB; rw [h, Bool.true_and]
  by_cases e : 0 ≤ idxB (platP cs) cs.length
  · rw [decide_eq_true e, decide_eq_false (by omega)]; rfl
  · rw [decide_eq_false e, decide_eq_true (by omega)]; rfl
theorem pln_n2 {cs : List C4} {L : Int} {k : Nat} (hk : k < cs.length) (h : platP cs k = true) : false = plnB cs L := by
  have : platB cs = false := by
    unfold platB; rw [decide_eq_false]; intro h2
    have := idxB_neg h2 k hk; rw [h] at this; cases this
  simp [plnB, this]
theorem pln_e2 {cs : List C4} {L : Int} (h : ∀ j : Nat, j < cs.length → platP cs j = false) : listB cs L = plnB cs L := by
  have : platB cs = true := by unfold platB; rw [← idxB_no h]; rfl
  simp [plnB, this]
theorem pln_y {cs : List C4} {L : Int} (h : plnB cs L = true) : listB cs L = true ∧ ∀ k : Nat, k < cs.length → (cs.getD k d4).1 = [] ∧ (cs.getD k d4).2.2.2 = [] := by
  simp only [plnB, platB, Bool.and_eq_true, decide_eq_true_eq] at h
  refine ⟨h.1, fun k hk => ?_⟩
  have := idxB_neg h.2 k hk
  simp only [platP, decide_eq_false_iff_not] at this
  exact ⟨List.eq_nil_of_length_eq_zero (by omega), List.eq_nil_of_length_eq_zero (by omega)⟩
theorem there_nil {wd : List Int} {a : Int} (h : 0 ≤ a) (h2 : a ≤ wd.length) : thereB wd [] a = true := by
  unfold thereB
  refine decide_eq_true ⟨h, by simpa using h2, ?_⟩
  simp
theorem fits_plain {c : C4} {wd : List Int} {a : Int} (h0 : c.1 = []) (h3 : c.2.2.2 = []) : fitsB c wd a = thereB wd c.2.1 a := by
  unfold fitsB
  cases h : thereB wd c.2.1 a with
  | false => simp
  | true =>
    have := there_y h
    rw [h0, h3, there_nil (by simp; omega) (by simp; omega), there_nil (by omega) (by omega)]; rfl
/-- Until none fits. -/
def nrmR (cs : List C4) (wd : List Int) (L mo : Int) : Option (List Int × Int) := if plnB cs L = true ∧ longB wd L = true ∧ (0 ≤ mo ∧ mo ≤ 200) then normF cs mo.toNat wd else none
theorem nrmR_y {cs : List C4} {wd : List Int} {L m : Int} (h1 : plnB cs L = true) (h2 : longB wd L = true) (h3 : 0 ≤ m ∧ m ≤ 200) : nrmR cs wd L m = normF cs m.toNat wd := if_pos ⟨h1, h2, h3⟩
theorem nrmR_n1 {cs : List C4} {wd : List Int} {L m : Int} (h : plnB cs L = false) : nrmR cs wd L m = none := if_neg (fun hh => by rw [h] at hh; exact absurd hh.1 (by decide))
theorem nrmR_n2 {cs : List C4} {wd : List Int} {L m : Int} (h : longB wd L = false) : nrmR cs wd L m = none := if_neg (fun hh => by rw [h] at hh; exact absurd hh.2.1 (by decide))
theorem nrmR_n3 {cs : List C4} {wd : List Int} {L m : Int} (h : ¬ (0 ≤ m ∧ m ≤ 200)) : nrmR cs wd L m = none := if_neg (fun hh => h hh.2.2)
theorem nrmR_len (cs : List C4) (wd : List Int) (L m : Int) : (nL (nrmR cs wd L m)).length ≤ 24 := by
  unfold nrmR; split
  · rename_i h; exact normF_len _ _ (longB_y h.2.1).2.1
  · simp [nL]
/-! ### Letters for letters -/
/-- The longest Find at a place, among the first k. -/
def bestK (cs : List C4) (wd : List Int) (a : Nat) : Nat → Int
  | 0 => -1
  | k + 1 => if thereB wd (cs.getD k d4).2.1 (a : Int) = true ∧ (bestK cs wd a k < 0 ∨ (cs.getD (bestK cs wd a k).toNat d4).2.1.length < (cs.getD k d4).2.1.length) then (k : Int) else bestK cs wd a k
theorem bestK_rng (cs : List C4) (wd : List Int) (a : Nat) : ∀ k, -1 ≤ bestK cs wd a k ∧ bestK cs wd a k < k
  | 0 => by simp [bestK]
  | k + 1 => by
    have := bestK_rng cs wd a k
    unfold bestK; split <;> omega
theorem bestK_there (cs : List C4) (wd : List Int) (a : Nat) : ∀ k, 0 ≤ bestK cs wd a k → thereB wd (cs.getD (bestK cs wd a k).toNat d4).2.1 (a : Int) = true
  | 0, h => by simp [bestK] at h
  | k + 1, h => by
    unfold bestK at h ⊢
    split
    · rename_i h2; rw [Int.toNat_natCast]; exact h2.1
    · rename_i h2; rw [if_neg h2] at h; exact bestK_there cs wd a k h
section
variable {cs : List C4} {wd : List Int} {a k : Nat}
theorem best_y (h1 : thereB wd (cs.getD k d4).2.1 (a : Int) = true) (h2 : bestK cs wd a k < 0 ∨ (cs.getD (bestK cs wd a k).toNat d4).2.1.length < (cs.getD k d4).2.1.length) : (k : Int) = bestK cs wd a (k + 1) := by
  conv => rhs; unfold bestK
  rw [if_pos ⟨h1, h2⟩]
theorem best_n1 (h1 : thereB wd (cs.getD k d4).2.1 (a : Int) = false) : bestK cs wd a k = bestK cs wd a (k + 1) := by
  conv => rhs; unfold bestK
  rw [if_neg (fun h => by rw [h1] at h; exact absurd h.1 (by decide))]
theorem best_n2 (h2 : ¬ (bestK cs wd a k < 0 ∨ (cs.getD (bestK cs wd a k).toNat d4).2.1.length < (cs.getD k d4).2.1.length)) : bestK cs wd a k = bestK cs wd a (k + 1) := by
  conv => rhs; unfold bestK
  rw [if_neg (fun h => h2 h.2)]
end
def bestI (cs : List C4) (wd : List Int) (a : Nat) : Int := bestK cs wd a cs.length
def traR (cs : List C4) (wd : List Int) : Nat → Nat → List Int
  | 0, _ => []
  | n + 1, a => if a < wd.length then (if 0 ≤ bestI cs wd a then (cs.getD (bestI cs wd a).toNat d4).2.2.1 ++ traR cs wd n (a + (cs.getD (bestI cs wd a).toNat d4).2.1.length) else wd.getD a 0 :: traR cs wd n (a + 1)) else []
def okL (cs : List C4) : Prop := ∀ k : Nat, k < cs.length → okC (cs.getD k d4)
theorem best_lt {cs : List C4} {wd : List Int} {a : Nat} (h : 0 ≤ bestI cs wd a) : (bestI cs wd a).toNat < cs.length := by have := bestK_rng cs wd a cs.length; unfold bestI at h ⊢; omega
theorem traR_fuel {cs : List C4} {wd : List Int} (hc : okL cs) : ∀ (n m a : Nat), wd.length - a ≤ n → wd.length - a ≤ m → traR cs wd n a = traR cs wd m a
  | 0, 0, _, _, _ => rfl
  | 0, m + 1, a, h, _ => by unfold traR; rw [if_neg (by omega)]
  | n + 1, 0, a, _, h => by unfold traR; rw [if_neg (by omega)]
  | n + 1, m + 1, a, h1, h2 => by
    unfold traR
    split
    · split
      · rename_i hb
        have := (hc _ (best_lt hb)).2.1
        rw [traR_fuel hc n m (a + (cs.getD (bestI cs wd a).toNat d4).2.1.length) (by omega) (by omega)]
      · rw [traR_fuel hc n m (a + 1) (by omega) (by omega)]
    · rfl
def restT (cs : List C4) (wd : List Int) (a : Nat) : List Int := traR cs wd (wd.length - a) a
def traL (cs : List C4) (wd : List Int) : List Int := restT cs wd 0
section
variable {cs : List C4} {wd : List Int} {a : Nat}
theorem restT_end (h : wd.length ≤ a) : restT cs wd a = [] := by unfold restT; rw [show wd.length - a = 0 from by omega]; rfl
theorem restT_fit (hc : okL cs) (h : a < wd.length) (hb : 0 ≤ bestI cs wd a) : restT cs wd a = (cs.getD (bestI cs wd a).toNat d4).2.2.1 ++ restT cs wd (a + (cs.getD (bestI cs wd a).toNat d4).2.1.length) := by
  have := (hc _ (best_lt hb)).2.1
  unfold restT
  obtain ⟨n, hn⟩ : ∃ n, wd.length - a = n + 1 := ⟨wd.length - a - 1, by omega⟩
  rw [hn]
  conv => lhs; unfold traR
  rw [if_pos h, if_pos hb, traR_fuel hc n (wd.length - (a + (cs.getD (bestI cs wd a).toNat d4).2.1.length)) _ (by omega) (by omega)]
theorem restT_no (hc : okL cs) (h : a < wd.length) (hb : bestI cs wd a < 0) : restT cs wd a = wd.getD a 0 :: restT cs wd (a + 1) := by
  unfold restT
  obtain ⟨n, hn⟩ : ∃ n, wd.length - a = n + 1 := ⟨wd.length - a - 1, by omega⟩
  rw [hn]
  conv => lhs; unfold traR
  rw [if_pos h, if_neg (by omega), traR_fuel hc n (wd.length - (a + 1)) _ (by omega) (by omega)]
def TrR (cs : List C4) (wd : List Int) (out : List Int) (a : Nat) : Prop := a ≤ wd.length ∧ out ++ restT cs wd a = traL cs wd ∧ out.length ≤ 4 * a
theorem TrR.zero (cs : List C4) (wd : List Int) : TrR cs wd [] 0 := ⟨by omega, rfl, by simp⟩
theorem TrR.fit {out : List Int} (h : TrR cs wd out a) (hc : okL cs) (hl : a < wd.length) (hb : 0 ≤ bestI cs wd a) : TrR cs wd (out ++ (cs.getD (bestI cs wd a).toNat d4).2.2.1) (a + (cs.getD (bestI cs wd a).toNat d4).2.1.length) := by
  have h0 := hc _ (best_lt hb)
  have := there_y (bestK_there cs wd a cs.length hb); have h1 := h0.2.1; have h2 := h0.2.2.1; have h3 := h.2.2
  have e : bestK cs wd a cs.length = bestI cs wd a := rfl
  rw [e] at this
  refine ⟨by omega, ?_, by rw [List.length_append]; omega⟩
  rw [List.append_assoc, ← restT_fit hc hl hb]; exact h.2.1
theorem TrR.no {out : List Int} (h : TrR cs wd out a) (hc : okL cs) (hl : a < wd.length) (hb : bestI cs wd a < 0) : TrR cs wd (out ++ [wd.getD a 0]) (a + 1) := by
  have h3 := h.2.2
  refine ⟨by omega, ?_, by simp; omega⟩
  rw [List.append_assoc]
  have e : [wd.getD a 0] ++ restT cs wd (a + 1) = restT cs wd a := (restT_no hc hl hb).symm
  rw [e]; exact h.2.1
theorem TrR.end {out : List Int} (h : TrR cs wd out a) (hl : wd.length ≤ a) : out = traL cs wd := by
  have := h.2.1; rw [restT_end hl, List.append_nil] at this; exact this
end
def okT' (cs : List C4) (wd : List Int) : Bool := decide ((traL cs wd).length ≤ 24)
def trnB (cs : List C4) (wd : List Int) (L : Int) : Bool := plnB cs L && longB wd L && okT' cs wd
theorem trn_n1 {cs : List C4} {wd : List Int} {L : Int} (h : plnB cs L = false) : false = trnB cs wd L := by simp [trnB, h]
theorem trn_n2 {cs : List C4} {wd : List Int} {L : Int} (h : longB wd L = false) : false = trnB cs wd L := by simp [trnB, h]
theorem trn_e {cs : List C4} {wd : List Int} {L : Int} (h : plnB cs L = true) (h2 : longB wd L = true) : okT' cs wd = trnB cs wd L := by simp [trnB, h, h2]
theorem trn_len (cs : List C4) (wd : List Int) (L : Int) : (onT (trnB cs wd L) (traL cs wd)).length ≤ 24 := by
  by_cases h : trnB cs wd L = true
  · rw [onT_yes h]; simp only [trnB, okT', Bool.and_eq_true, decide_eq_true_eq] at h; exact h.2
  · rw [onT_no h]; simp
end Go.WX
