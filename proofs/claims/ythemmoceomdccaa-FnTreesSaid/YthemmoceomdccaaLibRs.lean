/- A stack of lists, each in a block of its own that nothing turns any more. No condition. -/
import Derived.Test.YthemmoceomdccaaLibRf
import Derived.Test.YthemmoceomdccaaLibO
import Derived.Test.YthemmoceomdccaaPlTs
namespace Go.WX
open Go

structure EL (w0 W : World) (sb og : Option Nat) (vs : List Value) (ls : List (List Int)) : Prop where
  len : vs.length = ls.length
  el : ∀ i, i < ls.length → ∃ oi, Osl VI W oi (vs.getD i (.slice none 0 0)) (ls.getD i []) ∧ Dj oi og ∧ Dj oi sb ∧ Lo w0 oi
section
variable {w0 W W' : World} {sb og og' o : Option Nat} {vs : List Value} {ls : List (List Int)} {v : Value} {xs : List Int} {i j : Nat} {row : Option Nat} {B D : Nat}
theorem EL.zero (w0 W : World) (sb og : Option Nat) : EL w0 W sb og [] [] := ⟨rfl, fun i h => by simp at h⟩
theorem EL.abd (h : EL w0 W sb og vs ls) (hg : W.grownBy W' row) (hr : ∀ r, row = some r → B ≤ r ∧ ∃ o : Obj, W.heap[r]? = some o ∧ o.isCells = false) : EL w0 W' sb og vs ls :=
  ⟨h.len, fun i hi => by obtain ⟨oi, h1, h2⟩ := h.el i hi; exact ⟨oi, h1.abd hg hr, h2⟩⟩
theorem EL.loop (h : EL w0 W sb og vs ls) (u : UpdL [sb, og] W W') (r : OgR W og og') : EL w0 W' sb og' vs ls :=
  ⟨h.len, fun i hi => by
    obtain ⟨oi, h1, h2, h3, h4⟩ := h.el i hi
    refine ⟨oi, h1.loop u ⟨h3, h2, trivial⟩, fun g hg he => ?_, h3, h4⟩
    rcases r g he with h5 | h5
    · exact h2 g hg h5
    · have := h1.ltO g hg; omega⟩
theorem EL.rd (h : EL w0 W sb og vs ls) (u : UpdL [sb, og] W W') (hi : i < ls.length) : Rd EI W' (vs.getD i (.slice none 0 0)) (ls.getD i []) := by
  obtain ⟨oi, h1, h2, h3, _⟩ := h.el i hi
  exact (h1.loop u ⟨h3, h2, trivial⟩).rd
theorem EL.put (h : EL w0 W sb og vs ls) (ho : Osl VI W o v xs) (d1 : Dj o og) (d2 : Dj o sb) (lo : Lo w0 o) : EL w0 W sb og (vs ++ [v]) (ls ++ [xs]) :=
  ⟨by simp [h.len], fun i hi => by
    by_cases e : i < ls.length
    · rw [getD_app1 e, getD_app1 (by rw [h.len]; exact e)]; exact h.el i e
    · have e2 : i = ls.length := by simp at hi; omega
      subst e2
      rw [getD_app2 (Nat.le_refl _), ← h.len, getD_app2 (Nat.le_refl _), Nat.sub_self]
      exact ⟨o, ho, d1, d2, lo⟩⟩
theorem getD_set_take {α : Type} {l : List α} {a d : α} (hi : i < j) : (l.take j).getD i d = l.getD i d := by simp [List.getD_eq_getElem?_getD, List.getElem?_take, hi]
theorem EL.node (h : EL w0 W sb og vs ls) (ho : Osl VI W o v xs) (d1 : Dj o og) (d2 : Dj o sb) (lo : Lo w0 o) (hj : j < ls.length) : EL w0 W sb og ((vs.set j v).take i) ((ls.set j xs).take i) :=
  ⟨by simp [h.len], fun k hk => by
    have hk1 : k < i ∧ k < ls.length := by simp at hk; omega
    rw [getD_set_take (a := v) hk1.1, getD_set_take (a := xs) hk1.1]
    by_cases e : j = k
    · subst e
      have e1 : (vs.set j v).getD j (.slice none 0 0) = v := by simp [List.getD_eq_getElem?_getD, h.len, hj]
      have e2 : (ls.set j xs).getD j [] = xs := by simp [List.getD_eq_getElem?_getD, hj]
      rw [e1, e2]; exact ⟨o, ho, d1, d2, lo⟩
    · have e1 : (vs.set j v).getD k (.slice none 0 0) = vs.getD k (.slice none 0 0) := by simp [List.getD_eq_getElem?_getD, List.getElem?_set, e]
      have e2 : (ls.set j xs).getD k [] = ls.getD k [] := by simp [List.getD_eq_getElem?_getD, List.getElem?_set, e]
      rw [e1, e2]; exact h.el k hk1.2⟩
theorem Osl.putD {α : Type} {f : α → Value} {xs : List α} (h : Osl f W og v xs) (hD : W.heap[D]? = some (.deferred (some []))) (o : Obj) : Osl f (W.putObj D o) og v xs :=
  Ow.upd h (grownBy_putObj' W D o) (fun g e1 e2 => Ow.neD h hD g e1 (by cases e2; rfl))
theorem FI.mlen {L : Int} {T : Tre} {k : Nat} {sk : List (List Int)} (h : FI L T (fun x => [x]) (fun a b => -1 :: (b ++ a)) k sk) {i : Nat} (hi : i < sk.length) : (sk.getD i []).length ≤ (flatT T).length := by
  obtain ⟨ts, h1, h2, h3⟩ := h
  have hm : sk.getD i [] ∈ sk := getD_mem hi
  rw [h2] at hm
  obtain ⟨t, ht, he⟩ := List.mem_map.1 (List.mem_reverse.1 hm)
  have h4 : (flatT t).length ≤ (flatsT ts).length := by
    clear h1 h2 h3 hm he
    induction ts with
    | nil => cases ht
    | cons a r ih =>
      rw [flatsT_cons, List.length_append]
      rcases List.mem_cons.1 ht with rfl | ht
      · omega
      · have := ih ht; omega
  have h5 : (sk.getD i []).length = (flatT t).length := by rw [h2, ← he, ev_mir, mir_len]
  rw [h5]
  have h6 := congrArg List.length h1
  rw [List.length_drop] at h6; omega
end
end Go.WX
