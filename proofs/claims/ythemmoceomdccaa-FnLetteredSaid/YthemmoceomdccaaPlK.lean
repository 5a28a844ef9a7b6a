/- Plain laws on changes at all places, one after another; no program. No condition. -/
import Derived.Test.YthemmoceomdccaaPlN
namespace Go.WX
open Go

/-- A change at all places, from place a on. -/
def allR (c : C4) (wd : List Int) : Nat → Nat → List Int
  | 0, _ => []
  | n + 1, a => if a < wd.length then (if fitsB c wd (a : Int) = true then c.2.2.1 ++ allR c wd n (a + c.2.1.length) else wd.getD a 0 :: allR c wd n (a + 1)) else []
theorem allR_fuel {c : C4} {wd : List Int} (hc : 1 ≤ c.2.1.length) : ∀ (n m a : Nat), wd.length - a ≤ n → wd.length - a ≤ m → allR c wd n a = allR c wd m a
  | 0, 0, _, _, _ => rfl
  | 0, m + 1, a, h, _ => by unfold allR; rw [if_neg (by omega)]
  | n + 1, 0, a, _, h => by unfold allR; rw [if_neg (by omega)]
  | n + 1, m + 1, a, h1, h2 => by
    unfold allR
    split
    · split
      · rw [allR_fuel hc n m (a + c.2.1.length) (by omega) (by omega)]
      · rw [allR_fuel hc n m (a + 1) (by omega) (by omega)]
    · rfl
def restL (c : C4) (wd : List Int) (a : Nat) : List Int := allR c wd (wd.length - a) a
def allL (c : C4) (wd : List Int) : List Int := restL c wd 0
section
variable {c : C4} {wd : List Int} {a : Nat}
theorem rest_end (h : wd.length ≤ a) : restL c wd a = [] := by unfold restL; rw [show wd.length - a = 0 from by omega]; rfl
theorem rest_fit (hc : 1 ≤ c.2.1.length) (h : a < wd.length) (hf : fitsB c wd (a : Int) = true) : restL c wd a = c.2.2.1 ++ restL c wd (a + c.2.1.length) := by
  unfold restL
  obtain ⟨n, hn⟩ : ∃ n, wd.length - a = n + 1 := ⟨wd.length - a - 1, by omega⟩
  rw [hn]
  conv => lhs; unfold allR
  rw [if_pos h, if_pos hf, allR_fuel hc n (wd.length - (a + c.2.1.length)) _ (by omega) (by omega)]
theorem rest_no (hc : 1 ≤ c.2.1.length) (h : a < wd.length) (hf : fitsB c wd (a : Int) = false) : restL c wd a = wd.getD a 0 :: restL c wd (a + 1) := by
  unfold restL
  obtain ⟨n, hn⟩ : ∃ n, wd.length - a = n + 1 := ⟨wd.length - a - 1, by omega⟩
  rw [hn]
  conv => lhs; unfold allR
  rw [if_pos h, if_neg (by rw [hf]; decide), allR_fuel hc n (wd.length - (a + 1)) _ (by omega) (by omega)]
/-- out is what stands ahead of place a. -/
def AlR (c : C4) (wd : List Int) (out : List Int) (a : Nat) : Prop := a ≤ wd.length ∧ out ++ restL c wd a = allL c wd ∧ out.length ≤ 4 * a
theorem AlR.zero (c : C4) (wd : List Int) : AlR c wd [] 0 := ⟨by omega, rfl, by simp⟩
theorem AlR.fit {out : List Int} (h : AlR c wd out a) (hc : okC c) (hl : a < wd.length) (hf : fitsB c wd (a : Int) = true) : AlR c wd (out ++ c.2.2.1) (a + c.2.1.length) := by
  have := fits_y hf; have h1 := hc.2.1; have h2 := hc.2.2.1; have h3 := h.2.2
  refine ⟨by omega, ?_, by rw [List.length_append]; omega⟩
  rw [List.append_assoc, ← rest_fit h1.1 hl hf]; exact h.2.1
theorem AlR.no {out : List Int} (h : AlR c wd out a) (hc : okC c) (hl : a < wd.length) (hf : fitsB c wd (a : Int) = false) : AlR c wd (out ++ [wd.getD a 0]) (a + 1) := by
  have h1 := hc.2.1; have h3 := h.2.2
  refine ⟨by omega, ?_, by simp; omega⟩
  rw [List.append_assoc]
  have e : [wd.getD a 0] ++ restL c wd (a + 1) = restL c wd a := (rest_no h1.1 hl hf).symm
  rw [e]; exact h.2.1
theorem AlR.end {out : List Int} (h : AlR c wd out a) (hl : wd.length ≤ a) : out = allL c wd := by
  have := h.2.1; rw [rest_end hl, List.append_nil] at this; exact this
end
def okA (c : C4) (wd : List Int) : Bool := decide ((allL c wd).length ≤ 24)
/-- All changes, one after another. -/
def runF : List C4 → List Int → Option (List Int)
  | [], wd => some wd
  | c :: r, wd => if okA c wd = true then runF r (allL c wd) else none
def rL (r : Option (List Int)) : List Int := match r with | some x => x | none => []
def rB (r : Option (List Int)) : Bool := r.isSome
def RuR (cs : List C4) (wd0 now : List Int) (k : Nat) : Prop := runF cs wd0 = runF (cs.drop k) now
theorem RuR.zero (cs : List C4) (wd : List Int) : RuR cs wd wd 0 := rfl
theorem RuR.step {cs : List C4} {wd0 now : List Int} {k : Nat} (h : RuR cs wd0 now k) (hk : k < cs.length) (hb : okA (cs.getD k d4) now = true) : RuR cs wd0 (allL (cs.getD k d4) now) (k + 1) := by
  unfold RuR at h ⊢; rw [h, drop_cons hk d4]; exact if_pos hb
theorem RuR.bad {cs : List C4} {wd0 now : List Int} {k : Nat} (h : RuR cs wd0 now k) (hk : k < cs.length) (hb : okA (cs.getD k d4) now = false) : runF cs wd0 = none := by
  unfold RuR at h; rw [h, drop_cons hk d4]; exact if_neg (by rw [hb]; decide)
theorem RuR.end {cs : List C4} {wd0 now : List Int} {k : Nat} (h : RuR cs wd0 now k) (hk : cs.length ≤ k) : runF cs wd0 = some now := by
  unfold RuR at h; rw [h, List.drop_eq_nil_of_le hk]; rfl
theorem runF_len : ∀ (cs : List C4) (wd : List Int), wd.length ≤ 24 → (rL (runF cs wd)).length ≤ 24
  | [], wd, h => h
  | c :: r, wd, h => by
    unfold runF
    split
    · rename_i hb; exact runF_len r _ (by simpa [okA] using hb)
    · simp [rL]
/-- Whether a list of changes is valid. -/
def listB (cs : List C4) (L : Int) : Bool := decide (cs.length ≤ 8) && decide (1 ≤ L ∧ L ≤ 4) && cs.all (fun c => chB c L)
theorem listB_n {cs : List C4} {L : Int} {k : Nat} (hk : k < cs.length) (h : chB (cs.getD k d4) L = false) : false = listB cs L := by
  have : cs.all (fun c => chB c L) = false := by
    rw [List.all_eq_false]
    refine ⟨cs.getD k d4, ?_, by rw [h]; decide⟩
    simp [List.getD_eq_getElem?_getD, hk]
  simp [listB, this]
theorem listB_all {cs : List C4} {L : Int} (h : ∀ j : Nat, j < cs.length → chB (cs.getD j d4) L = true) : cs.all (fun c => chB c L) = true := by
  rw [List.all_eq_true]
  intro x hx
  obtain ⟨j, hj, rfl⟩ := List.mem_iff_getElem.1 hx
  have := h j hj
  simpa [List.getD_eq_getElem?_getD, hj] using this
theorem listB_e1 {cs : List C4} {L : Int} (h : ∀ j : Nat, j < cs.length → chB (cs.getD j d4) L = true) (h2 : cs.length ≤ 8) : decide (1 ≤ L ∧ L ≤ 4) = listB cs L := by
  simp only [listB, listB_all h, decide_eq_true h2, Bool.and_true, Bool.true_and]
theorem listB_e2 {cs : List C4} {L : Int} (h2 : ¬ cs.length ≤ 8) : false = listB cs L := by simp only [listB, decide_eq_false h2, Bool.false_and]
theorem listB_e3 {cs : List C4} {L : Int} (h2 : ¬ (1 ≤ L ∧ L ≤ 4)) : false = listB cs L := by simp only [listB, decide_eq_false h2, Bool.false_and, Bool.and_false]
theorem listB_y1 {cs : List C4} {L : Int} (h : ∀ j : Nat, j < cs.length → chB (cs.getD j d4) L = true) (h2 : cs.length ≤ 8) (h3 : 1 ≤ L ∧ L ≤ 4) : true = listB cs L := by rw [← listB_e1 h h2, decide_eq_true h3]
theorem listB_y {cs : List C4} {L : Int} (h : listB cs L = true) : cs.length ≤ 8 ∧ (1 ≤ L ∧ L ≤ 4) ∧ (∀ k : Nat, k < cs.length → chB (cs.getD k d4) L = true) ∧ ∀ k : Nat, k < cs.length → okC (cs.getD k d4) := by
  simp only [listB, Bool.and_eq_true, decide_eq_true_eq, List.all_eq_true] at h
  have h3 : ∀ k : Nat, k < cs.length → chB (cs.getD k d4) L = true := fun k hk => h.2 _ (by simp [List.getD_eq_getElem?_getD, hk])
  exact ⟨h.1.1, h.1.2, h3, fun k hk => (chB_y (h3 k hk)).1⟩
/-- All of it. -/
def runR (cs : List C4) (wd : List Int) (L : Int) : Option (List Int) := if listB cs L = true ∧ longB wd L = true then runF cs wd else none
theorem runR_y {cs : List C4} {wd : List Int} {L : Int} (h1 : listB cs L = true) (h2 : longB wd L = true) : runR cs wd L = runF cs wd := if_pos ⟨h1, h2⟩
theorem runR_n1 {cs : List C4} {wd : List Int} {L : Int} (h : listB cs L = false) : runR cs wd L = none := if_neg (fun hh => by rw [h] at hh; exact absurd hh.1 (by decide))
theorem runR_n2 {cs : List C4} {wd : List Int} {L : Int} (h : longB wd L = false) : runR cs wd L = none := if_neg (fun hh => by rw [h] at hh; exact absurd hh.2 (by decide))
theorem runR_len (cs : List C4) (wd : List Int) (L : Int) : (rL (runR cs wd L)).length ≤ 24 := by
  unfold runR; split
  · rename_i h; exact runF_len _ _ (longB_y h.2).2.1
  · simp [rL]
end Go.WX
