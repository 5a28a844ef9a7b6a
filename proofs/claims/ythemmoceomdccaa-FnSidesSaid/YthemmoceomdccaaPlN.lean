/- Plain laws on changes of words; no program. No condition. -/
import Derived.Test.YthemmoceomdccaaPlA
namespace Go.WX
open Go

/-- Left, Find, Give and Right of a change. -/
abbrev C4 : Type := List Int × List Int × List Int × List Int
def longB (xs : List Int) (L : Int) : Bool := decide (1 ≤ L ∧ L ≤ 4) && decide (xs.length ≤ 24) && allIn xs 0 (L - 1)
def fourB (xs : List Int) (L : Int) : Bool := longB xs L && decide (xs.length ≤ 4)
def chB (c : C4) (L : Int) : Bool := fourB c.1 L && fourB c.2.1 L && fourB c.2.2.1 L && fourB c.2.2.2 L && decide (1 ≤ c.2.1.length)
/-- The lengths of a change's lists. -/
def okC (c : C4) : Prop := c.1.length ≤ 4 ∧ (1 ≤ c.2.1.length ∧ c.2.1.length ≤ 4) ∧ c.2.2.1.length ≤ 4 ∧ c.2.2.2.length ≤ 4
theorem longB_y {xs : List Int} {L : Int} (h : longB xs L = true) : (1 ≤ L ∧ L ≤ 4) ∧ xs.length ≤ 24 ∧ allIn xs 0 (L - 1) = true := by
  simp only [longB, Bool.and_eq_true, decide_eq_true_eq] at h; exact ⟨h.1.1, h.1.2, h.2⟩
theorem chB_y {c : C4} {L : Int} (h : chB c L = true) : okC c ∧ (1 ≤ L ∧ L ≤ 4) := by
  simp only [chB, fourB, Bool.and_eq_true, decide_eq_true_eq] at h
  exact ⟨⟨h.1.1.1.1.2, ⟨h.2, h.1.1.1.2.2⟩, h.1.1.2.2, h.1.2.2⟩, (longB_y h.1.1.1.1.1).1⟩
theorem chB_n {c : C4} {L : Int} {k : Nat} (hk : k < 4) (h : fourB ([c.1, c.2.1, c.2.2.1, c.2.2.2].getD k []) L = false) : false = chB c L := by
  rcases k with _ | _ | _ | _ | k
  · have : fourB c.1 L = false := h; simp [chB, this]
  · have : fourB c.2.1 L = false := h; simp [chB, this]
  · have : fourB c.2.2.1 L = false := h; simp [chB, this]
  · have : fourB c.2.2.2 L = false := h; simp [chB, this]
  · omega
theorem chB_e {c : C4} {L : Int} (h : ∀ j : Nat, j < 4 → fourB ([c.1, c.2.1, c.2.2.1, c.2.2.2].getD j []) L = true) : decide ((0 : Int) < (c.2.1.length : Int)) = chB c L := by
  have h0 : fourB c.1 L = true := h 0 (by omega)
  have h1 : fourB c.2.1 L = true := h 1 (by omega)
  have h2 : fourB c.2.2.1 L = true := h 2 (by omega)
  have h3 : fourB c.2.2.2 L = true := h 3 (by omega)
  simp only [chB, h0, h1, h2, h3, Bool.and_true, Bool.true_and, Bool.and_self]
  exact decide_eq_decide.2 (by omega)
theorem chB_last {c : C4} {L : Int} (h : c.1.length ≤ 4 ∧ (1 ≤ c.2.1.length ∧ c.2.1.length ≤ 4) ∧ c.2.2.1.length ≤ 4 ∧ c.2.2.2.length ≤ 4) (h0 : longB c.1 L = true) (h1 : longB c.2.1 L = true) (h2 : longB c.2.2.1 L = true) : longB c.2.2.2 L = chB c L := by
  simp only [chB, fourB, h0, h1, h2, decide_eq_true h.1, decide_eq_true h.2.1.1, decide_eq_true h.2.1.2, decide_eq_true h.2.2.1, decide_eq_true h.2.2.2, Bool.and_true, Bool.true_and, Bool.and_self]
theorem chB_no1 {c : C4} {L : Int} (h : ¬ (c.1.length ≤ 4 ∧ (1 ≤ c.2.1.length ∧ c.2.1.length ≤ 4) ∧ c.2.2.1.length ≤ 4 ∧ c.2.2.2.length ≤ 4)) : false = chB c L := (Bool.eq_false_iff.2 fun hh => h (chB_y hh).1).symm
theorem chB_no2 {c : C4} {L : Int} (h : longB c.1 L = false ∨ longB c.2.1 L = false ∨ longB c.2.2.1 L = false) : false = chB c L := by
  rcases h with h | h | h <;> simp [chB, fourB, h]
/-- Whether letters are in a word at a place. -/
def thereB (wd part : List Int) (a : Int) : Bool := decide (0 ≤ a ∧ a + part.length ≤ wd.length ∧ (wd.take (a + part.length).toNat).drop a.toNat = part)
theorem there_n1 {wd part : List Int} {a : Int} (h : ¬ 0 ≤ a) : false = thereB wd part a := by unfold thereB; rw [decide_eq_false (fun hh => h hh.1)]
theorem there_n2 {wd part : List Int} {a : Int} (h : ¬ a + part.length ≤ wd.length) : false = thereB wd part a := by unfold thereB; rw [decide_eq_false (fun hh => h hh.2.1)]
theorem there_e {wd part : List Int} {a : Int} (h : 0 ≤ a) (h2 : a + part.length ≤ wd.length) : decide ((wd.take (a + part.length).toNat).drop a.toNat = part) = thereB wd part a := by
  unfold thereB; simp [h, h2]
theorem there_y {wd part : List Int} {a : Int} (h : thereB wd part a = true) : 0 ≤ a ∧ a + part.length ≤ wd.length := by
  simp only [thereB, decide_eq_true_eq] at h; exact ⟨h.1, h.2.1⟩
def fitsB (c : C4) (wd : List Int) (a : Int) : Bool := thereB wd c.1 (a - c.1.length) && thereB wd c.2.1 a && thereB wd c.2.2.2 (a + c.2.1.length)
theorem fits_y {c : C4} {wd : List Int} {a : Int} (h : fitsB c wd a = true) : 0 ≤ a ∧ a + c.2.1.length ≤ wd.length := by
  simp only [fitsB, Bool.and_eq_true] at h; exact there_y h.1.2
/-- The first place of a list that meets p, -1 if there is none. -/
def idxB (p : Nat → Bool) (n : Nat) : Int := match (List.range n).find? p with | some k => (k : Int) | none => -1
theorem idxB_at {p : Nat → Bool} {n k : Nat} (hk : k < n) (h0 : ∀ j, j < k → p j = false) (h1 : p k = true) : (k : Int) = idxB p n := by
  have : (List.range n).find? p = some k := by
    rw [List.find?_range_eq_some]
    exact ⟨h1, by simpa using hk, fun j hj => by rw [h0 j hj]; rfl⟩
  unfold idxB; rw [this]
theorem idxB_no {p : Nat → Bool} {n : Nat} (h0 : ∀ j, j < n → p j = false) : -1 = idxB p n := by
  have : (List.range n).find? p = none := by
    rw [List.find?_eq_none]
    intro x hx
    rw [h0 x (by simpa using hx)]; decide
  unfold idxB; rw [this]
theorem idxB_spec (p : Nat → Bool) (n : Nat) : (idxB p n = -1 ∧ ∀ j, j < n → p j = false) ∨ ∃ k : Nat, idxB p n = (k : Int) ∧ k < n ∧ p k = true ∧ ∀ j, j < k → p j = false := by
  unfold idxB
  cases h : (List.range n).find? p with
  | none =>
    left
    rw [List.find?_eq_none] at h
    exact ⟨rfl, fun j hj => by have := h j (by simpa using hj); simpa using this⟩
  | some k =>
    right
    rw [List.find?_range_eq_some] at h
    exact ⟨k, rfl, by simpa using h.2.1, h.1, fun j hj => by simpa using h.2.2 j hj⟩
theorem idxB_neg {p : Nat → Bool} {n : Nat} (h : idxB p n < 0) : ∀ j, j < n → p j = false := by
  rcases idxB_spec p n with ⟨_, h2⟩ | ⟨k, h2, _⟩
  · exact h2
  · omega
theorem idxB_rng (p : Nat → Bool) (n : Nat) : -1 ≤ idxB p n ∧ idxB p n < n ∨ idxB p n = -1 := by
  rcases idxB_spec p n with ⟨h2, _⟩ | ⟨k, h2, h3, _⟩
  · exact .inr h2
  · exact .inl ⟨by omega, by omega⟩
/-- The first place at which a change fits. -/
def firstI (c : C4) (wd : List Int) : Int := idxB (fun k => fitsB c wd (k : Int)) wd.length
theorem first_fits {c : C4} {wd : List Int} (h : 0 ≤ firstI c wd) : fitsB c wd (firstI c wd) = true := by
  unfold firstI at h ⊢
  rcases idxB_spec (fun k => fitsB c wd (k : Int)) wd.length with ⟨h2, _⟩ | ⟨k, h2, _, h3, _⟩
  · omega
  · rw [h2]; exact h3
theorem first_rng (c : C4) (wd : List Int) : -1 ≤ firstI c wd ∧ firstI c wd ≤ wd.length := by
  rcases idxB_rng (fun k => fitsB c wd (k : Int)) wd.length with h | h
  · unfold firstI; omega
  · unfold firstI; omega
/-- All places, ahead of k. -/
def placesL (c : C4) (wd : List Int) (k : Nat) : List Int := ((List.range k).filter fun q : Nat => fitsB c wd (q : Int)).map fun q : Nat => (q : Int)
theorem places_zero (c : C4) (wd : List Int) : ([] : List Int) = placesL c wd 0 := rfl
theorem places_y {c : C4} {wd : List Int} {k : Nat} (h : fitsB c wd (k : Int) = true) : placesL c wd k ++ [(k : Int)] = placesL c wd (k + 1) := by simp [placesL, List.range_succ, List.filter_append, h]
theorem places_n {c : C4} {wd : List Int} {k : Nat} (h : fitsB c wd (k : Int) = false) : placesL c wd k = placesL c wd (k + 1) := by simp [placesL, List.range_succ, List.filter_append, h]
theorem places_len (c : C4) (wd : List Int) (k : Nat) : (placesL c wd k).length ≤ k := by
  unfold placesL; rw [List.length_map]; exact Nat.le_trans (List.length_filter_le _ _) (by simp)
theorem places_first (c : C4) (wd : List Int) : ((placesL c wd wd.length).length = 0 ↔ firstI c wd < 0) ∧ (0 ≤ firstI c wd → (placesL c wd wd.length).getD 0 0 = firstI c wd) := by
  have key : ∀ n, ((placesL c wd n).length = 0 ↔ idxB (fun k => fitsB c wd (k : Int)) n < 0) ∧ (0 ≤ idxB (fun k => fitsB c wd (k : Int)) n → (placesL c wd n).getD 0 0 = idxB (fun k => fitsB c wd (k : Int)) n) := by
    intro n
    induction n with
    | zero => simp [placesL, idxB]
    | succ n ih =>
      cases hf : fitsB c wd (n : Int) with
      | false =>
        rw [← places_n hf]
        have e : idxB (fun k => fitsB c wd (k : Int)) n = idxB (fun k => fitsB c wd (k : Int)) (n + 1) := by
          rcases idxB_spec (fun k => fitsB c wd (k : Int)) n with ⟨h2, h3⟩ | ⟨k, h2, h3, h4, h5⟩
          · rw [h2]; exact idxB_no (fun j hj => by rcases Nat.lt_succ_iff_lt_or_eq.1 hj with h | rfl; exact h3 j h; exact hf)
          · rw [h2]; exact idxB_at (by omega) h5 h4
        rw [← e]; exact ih
      | true =>
        rw [← places_y hf]
        rcases idxB_spec (fun k => fitsB c wd (k : Int)) n with ⟨h2, h3⟩ | ⟨k, h2, h3, h4, h5⟩
        · have e : (n : Int) = idxB (fun k => fitsB c wd (k : Int)) (n + 1) := idxB_at (by omega) h3 hf
          rw [← e]
          have h0 : (placesL c wd n).length = 0 := ih.1.2 (by omega)
          have h00 : placesL c wd n = [] := List.eq_nil_of_length_eq_zero h0
          rw [h00]; simp
        · have e : (k : Int) = idxB (fun k => fitsB c wd (k : Int)) (n + 1) := idxB_at (by omega) h5 h4
          rw [← e]
          have h0 : (placesL c wd n).length ≠ 0 := fun h => by have := ih.1.1 h; omega
          have h6 := ih.2 (by omega)
          rw [h2] at h6
          refine ⟨by simp, fun _ => ?_⟩
          rw [List.getD_eq_getElem?_getD, List.getElem?_append_left (by omega), ← List.getD_eq_getElem?_getD]; exact h6
  exact key wd.length
/-- A word with Give in the place of Find. -/
def putL (c : C4) (wd : List Int) (a : Int) : List Int := wd.take a.toNat ++ c.2.2.1 ++ wd.drop (a + c.2.1.length).toNat
theorem put_len {c : C4} {wd : List Int} {a : Int} (h : 0 ≤ a) (h2 : a + c.2.1.length ≤ wd.length) : ((putL c wd a).length : Int) = wd.length + c.2.2.1.length - c.2.1.length := by
  unfold putL; simp only [List.length_append, List.length_take, List.length_drop]; omega
abbrev d4 : C4 := ([], [], [], [])
/-- The first change that fits. -/
def stepI (cs : List C4) (wd : List Int) : Int := idxB (fun k => decide (0 ≤ firstI (cs.getD k d4) wd)) cs.length
def stepC (cs : List C4) (wd : List Int) : Option (List Int) := if 0 ≤ stepI cs wd then some (putL (cs.getD (stepI cs wd).toNat d4) wd (firstI (cs.getD (stepI cs wd).toNat d4) wd)) else none
theorem stepI_first {cs : List C4} {wd : List Int} (h : 0 ≤ stepI cs wd) : (stepI cs wd).toNat < cs.length ∧ 0 ≤ firstI (cs.getD (stepI cs wd).toNat d4) wd := by
  unfold stepI at h ⊢
  rcases idxB_spec (fun k => decide (0 ≤ firstI (cs.getD k d4) wd)) cs.length with ⟨h2, _⟩ | ⟨k, h2, h3, h4, _⟩
  · omega
  · rw [h2]; exact ⟨by simpa using h3, by simpa using h4⟩
/-- Changes until none fits, at most m. -/
def normF (cs : List C4) : Nat → List Int → Option (List Int × Int)
  | m, wd => match stepC cs wd with
    | none => some (wd, 0)
    | some nx => match m with
      | 0 => none
      | m + 1 => if nx.length ≤ 24 then (normF cs m nx).map (fun r => (r.1, r.2 + 1)) else none
theorem normF_none {cs : List C4} {m : Nat} {wd : List Int} (h : stepI cs wd < 0) : normF cs m wd = some (wd, 0) := by
  have : stepC cs wd = none := by unfold stepC; rw [if_neg (by omega)]
  unfold normF; rw [this]
theorem normF_zero {cs : List C4} {wd : List Int} (h : 0 ≤ stepI cs wd) : normF cs 0 wd = none := by
  unfold normF stepC; rw [if_pos h]
theorem normF_succ {cs : List C4} {m : Nat} {wd : List Int} (h : 0 ≤ stepI cs wd) : normF cs (m + 1) wd = if (putL (cs.getD (stepI cs wd).toNat d4) wd (firstI (cs.getD (stepI cs wd).toNat d4) wd)).length ≤ 24
    then (normF cs m (putL (cs.getD (stepI cs wd).toNat d4) wd (firstI (cs.getD (stepI cs wd).toNat d4) wd))).map (fun r => (r.1, r.2 + 1)) else none := by
  conv => lhs; unfold normF
  unfold stepC; rw [if_pos h]
/-- t changes have led from wd0 to now. -/
def NrR (cs : List C4) (M : Nat) (wd0 now : List Int) (t : Nat) : Prop := t ≤ M ∧ normF cs M wd0 = (normF cs (M - t) now).map (fun r => (r.1, r.2 + (t : Int)))
theorem NrR.zero (cs : List C4) (M : Nat) (wd : List Int) : NrR cs M wd wd 0 := ⟨Nat.zero_le _, by rw [Nat.sub_zero]; cases normF cs M wd <;> simp⟩
section
variable {cs : List C4} {M t : Nat} {wd0 now nx : List Int}
theorem NrR.end (h : NrR cs M wd0 now t) (hs : stepI cs now < 0) : normF cs M wd0 = some (now, (t : Int)) := by rw [h.2, normF_none hs]; simp
theorem NrR.stop (h : NrR cs M wd0 now t) (hs : 0 ≤ stepI cs now) (hm : t = M) : normF cs M wd0 = none := by rw [h.2, hm, Nat.sub_self, normF_zero hs]; rfl
theorem NrR.long (h : NrR cs M wd0 now t) (hs : 0 ≤ stepI cs now) (hl : ¬ (putL (cs.getD (stepI cs now).toNat d4) now (firstI (cs.getD (stepI cs now).toNat d4) now)).length ≤ 24) : normF cs M wd0 = none := by
  rw [h.2]
  rcases Nat.eq_zero_or_pos (M - t) with e | e
  · rw [e, normF_zero hs]; rfl
  · obtain ⟨m, hm⟩ : ∃ m, M - t = m + 1 := ⟨M - t - 1, by omega⟩
    rw [hm, normF_succ hs, if_neg hl]; rfl
theorem NrR.step (h : NrR cs M wd0 now t) (hs : 0 ≤ stepI cs now) (hm : t ≠ M) (hn : nx = putL (cs.getD (stepI cs now).toNat d4) now (firstI (cs.getD (stepI cs now).toNat d4) now)) (hl : nx.length ≤ 24) : NrR cs M wd0 nx (t + 1) := by
  subst hn
  have := h.1
  refine ⟨by omega, ?_⟩
  obtain ⟨m, hm2⟩ : ∃ m, M - t = m + 1 := ⟨M - t - 1, by omega⟩
  rw [h.2, hm2, normF_succ hs, if_pos hl, show M - (t + 1) = m from by omega]
  cases normF cs m _ <;> simp; omega
end
theorem stepI_y {c : C4} {wd : List Int} (h : 0 ≤ firstI c wd) : stepI [c] wd = 0 := by
  unfold stepI
  exact (idxB_at (k := 0) (by simp) (fun j h => by omega) (by simpa using h)).symm
theorem stepI_n {c : C4} {wd : List Int} (h : firstI c wd < 0) : stepI [c] wd = -1 := by
  unfold stepI
  refine (idxB_no (fun j hj => ?_)).symm
  have : j = 0 := by simp at hj; exact hj
  subst this; simp; omega
section
variable {c : C4} {M t : Nat} {wd0 now nx : List Int}
theorem NrR.end1 (h : NrR [c] M wd0 now t) (hs : firstI c now < 0) : normF [c] M wd0 = some (now, (t : Int)) := h.end (by rw [stepI_n hs]; omega)
theorem NrR.stop1 (h : NrR [c] M wd0 now t) (hs : 0 ≤ firstI c now) (hm : t = M) : normF [c] M wd0 = none := h.stop (by rw [stepI_y hs]; omega) hm
theorem NrR.long1 (h : NrR [c] M wd0 now t) (hs : 0 ≤ firstI c now) (hl : ¬ (putL c now (firstI c now)).length ≤ 24) : normF [c] M wd0 = none := h.long (by rw [stepI_y hs]; omega) (by rw [stepI_y hs]; exact hl)
theorem NrR.step1 (h : NrR [c] M wd0 now t) (hs : 0 ≤ firstI c now) (hm : t ≠ M) (hn : nx = putL c now (firstI c now)) (hl : nx.length ≤ 24) : NrR [c] M wd0 nx (t + 1) := h.step (by rw [stepI_y hs]; omega) hm (by rw [stepI_y hs]; exact hn) hl
end
/-- One change at its first place. -/
def onceL (c : C4) (wd : List Int) : List Int := if firstI c wd < 0 then wd else putL c wd (firstI c wd)
theorem once_n {c : C4} {wd : List Int} (h : firstI c wd < 0) : onceL c wd = wd := if_pos h
theorem once_y {c : C4} {wd : List Int} (h : 0 ≤ firstI c wd) : onceL c wd = putL c wd (firstI c wd) := if_neg (by omega)
def onceB (c : C4) (wd : List Int) : Bool := if firstI c wd < 0 then true else decide ((putL c wd (firstI c wd)).length ≤ 24)
theorem onceB_n {c : C4} {wd : List Int} (h : firstI c wd < 0) : onceB c wd = true := if_pos h
theorem onceB_y {c : C4} {wd : List Int} (h : 0 ≤ firstI c wd) : onceB c wd = decide ((putL c wd (firstI c wd)).length ≤ 24) := if_neg (by omega)
/-! ### What is told -/
def nL (r : Option (List Int × Int)) : List Int := match r with | some x => x.1 | none => []
def nT (r : Option (List Int × Int)) : Int := match r with | some x => x.2 | none => 0
def nB (r : Option (List Int × Int)) : Bool := r.isSome
theorem normF_len {cs : List C4} : ∀ (m : Nat) (wd : List Int), wd.length ≤ 24 → (nL (normF cs m wd)).length ≤ 24
  | 0, wd, h => by
    rcases Int.lt_or_le (stepI cs wd) 0 with e | e
    · rw [normF_none e]; exact h
    · rw [normF_zero e]; simp [nL]
  | m + 1, wd, h => by
    rcases Int.lt_or_le (stepI cs wd) 0 with e | e
    · rw [normF_none e]; exact h
    · rw [normF_succ e]
      split
      · rename_i hl
        have := normF_len (cs := cs) m _ hl
        revert this
        cases normF cs m _ <;> simp [nL]
      · simp [nL]
/-- One change, as long as it fits. -/
def endR (c : C4) (wd : List Int) (L m : Int) : Option (List Int × Int) := if chB c L = true ∧ longB wd L = true ∧ (0 ≤ m ∧ m ≤ 100) then normF [c] m.toNat wd else none
theorem endR_y {c : C4} {wd : List Int} {L m : Int} (h1 : chB c L = true) (h2 : longB wd L = true) (h3 : 0 ≤ m ∧ m ≤ 100) : endR c wd L m = normF [c] m.toNat wd := if_pos ⟨h1, h2, h3⟩
theorem endR_n1 {c : C4} {wd : List Int} {L m : Int} (h : chB c L = false) : endR c wd L m = none := if_neg (fun hh => by rw [h] at hh; exact absurd hh.1 (by decide))
theorem endR_n2 {c : C4} {wd : List Int} {L m : Int} (h : longB wd L = false) : endR c wd L m = none := if_neg (fun hh => by rw [h] at hh; exact absurd hh.2.1 (by decide))
theorem endR_n3 {c : C4} {wd : List Int} {L m : Int} (h : ¬ (0 ≤ m ∧ m ≤ 100)) : endR c wd L m = none := if_neg (fun hh => h hh.2.2)
theorem endR_len (c : C4) (wd : List Int) (L m : Int) : (nL (endR c wd L m)).length ≤ 24 := by
  unfold endR; split
  · rename_i h; exact normF_len _ _ (longB_y h.2.1).2.1
  · simp [nL]
end Go.WX
