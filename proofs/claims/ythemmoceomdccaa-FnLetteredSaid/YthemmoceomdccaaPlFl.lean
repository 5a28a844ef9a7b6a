/- Plain laws that the law on transliterations and features wants; no program. No condition. -/
import Derived.Test.YthemmoceomdccaaPlFs
namespace Go.WX
open Go
section
variable {cs : List C4} {wd ws out : List Int} {L : Int} {k : Nat}
theorem tr_len (hd : ∀ x ∈ cs, drC x L) : ∀ n a, (traR cs wd n a).length ≤ 2 * (wd.length - a)
  | 0, a => by simp [traR]
  | n + 1, a => by
    unfold traR
    split
    · split
      · rename_i hb
        have h1 := hd _ (getD_mem (d := d4) (best_lt hb))
        have h2 := (chB_y h1.1).1.2.1
        have h3 := tr_len hd n (a + (cs.getD (bestI cs wd a).toNat d4).2.1.length)
        rw [List.length_append]; have h4 := h1.2.2; omega
      · have h3 := tr_len hd n (a + 1)
        rw [List.length_cons]; omega
    · simp
theorem tr_in (hd : ∀ x ∈ cs, drC x L) (hw : ∀ x ∈ wd, 0 ≤ x ∧ x ≤ L - 1) : ∀ n a, ∀ x ∈ traR cs wd n a, 0 ≤ x ∧ x ≤ L - 1
  | 0, a, x, hx => by simp [traR] at hx
  | n + 1, a, x, hx => by
    unfold traR at hx
    split at hx
    · rename_i ha
      split at hx
      · rename_i hb
        rcases List.mem_append.1 hx with h | h
        · exact chB_give (hd _ (getD_mem (d := d4) (best_lt hb))).1 x h
        · exact tr_in hd hw n _ x h
      · rcases List.mem_cons.1 hx with h | h
        · rw [h]; exact hw _ (getD_mem ha)
        · exact tr_in hd hw n _ x h
    · cases hx
theorem fl_tra (hp : plnB cs L = true) (hd : ∀ x ∈ cs, drC x L) (hw : longB wd L = true) (h12 : wd.length ≤ 12) : trnB cs wd L = true ∧ longB (traL cs wd) L = true := by
  have h1 := tr_len (wd := wd) hd (wd.length - 0) 0
  have h2 : (traL cs wd).length ≤ 24 := by unfold traL restT; omega
  refine ⟨?_, longB_mk (longB_y hw).1 h2 (tr_in hd (longB_mem hw) _ _)⟩
  rw [← trn_e hp hw]; exact decide_eq_true h2
theorem fl_sel (hp : plnB cs L = true) (hL : 1 ≤ L ∧ L ≤ 4) (hk : k < (srcL (traF cs) out L 5).length) : trnB cs ((srcL (traF cs) out L 5).getD k []) L = true ∧ traL cs ((srcL (traF cs) out L 5).getD k []) = out := by
  obtain ⟨w, h1, h2, h3⟩ := fs_sel hk
  rw [h1]
  unfold traF at h3
  split at h3
  · rename_i h4
    cases h3
    refine ⟨?_, rfl⟩
    rw [← trn_e hp (longB_mk hL (by have := wordsP_each w h2; have e : (5 : Int).toNat = 5 := rfl; omega) (wordsP_in w h2))]; exact h4
  · cases h3
theorem fl_there (ht : trnB cs ws L = true) (h5 : ws.length ≤ 5) (hx : ∀ x ∈ ws, 0 ≤ x ∧ x ≤ L - 1) : ws ∈ srcL (traF cs) (traL cs ws) L 5 := by
  have e : (5 : Int).toNat + 1 = 6 := rfl
  obtain ⟨q, hq, he⟩ := mem_getD (d := []) (wordsP_mem (L := L) (k := 6) (w := ws) (by omega) hx)
  unfold srcL sel
  refine List.mem_map.2 ⟨q, List.mem_filter.2 ⟨List.mem_range.2 hq, ?_⟩, he⟩
  have ho : okT' cs ws = true := by simp only [trnB, Bool.and_eq_true] at ht; exact ht.2
  have he2 : (wordsP L ((5 : Int).toNat + 1)).getD q [] = ws := he
  refine leadP_y ?_ ?_
  · rw [he2]; unfold traF; rw [if_pos ho]; rfl
  · rw [he2]; unfold traF; rw [if_pos ho]; rfl
/-- Whether ws is among the first k. -/
def fdB (ls : List (List Int)) (ws : List Int) (k : Nat) : Bool := (ls.take k).any fun x => decide (x = ws)
theorem fd_zero (ls : List (List Int)) (ws : List Int) : false = fdB ls ws 0 := by simp [fdB]
theorem fd_succ {ls : List (List Int)} (hk : k < ls.length) : fdB ls ws (k + 1) = (fdB ls ws k || decide (ls.getD k [] = ws)) := by
  unfold fdB; rw [take_succ hk ([] : List Int), List.any_append]; simp
theorem fd_yes {ls : List (List Int)} (hk : k < ls.length) (h : fdB ls ws k = true) : true = fdB ls ws (k + 1) := by rw [fd_succ hk, h]; rfl
theorem fd_no {ls : List (List Int)} (hk : k < ls.length) (h : fdB ls ws k = false) : decide (ls.getD k [] = ws) = fdB ls ws (k + 1) := by rw [fd_succ hk, h]; rfl
theorem fd_all {ls : List (List Int)} (hk : ls.length ≤ k) (h : ws ∈ ls) : fdB ls ws k = true := by
  unfold fdB; rw [List.take_of_length_le hk, List.any_eq_true]; exact ⟨ws, h, decide_eq_true rfl⟩
end

/-! ### Features -/
theorem four_int {n : Int} (h : 0 ≤ n ∧ n ≤ 3) : n = 0 ∨ n = 1 ∨ n = 2 ∨ n = 3 := by omega
abbrev F4 : List Int := [0, 1, 2, 3]
theorem f4_get {k : Nat} (h : k < 4) : F4.getD k 0 = (k : Int) := by
  match k, h with
  | 0, _ => rfl
  | 1, _ => rfl
  | 2, _ => rfl
  | 3, _ => rfl
theorem f4_idx {v : Int} (h : 0 ≤ v ∧ v ≤ 3) : idxB (fun k => decide (v = F4.getD k 0)) F4.length = v := by
  rcases four_int h with rfl | rfl | rfl | rfl <;> decide
theorem f4_nod {i : Nat} (h : i < 4) : idxB (fun k => decide (F4.getD i 0 = (F4.take i).getD k 0)) (F4.take i).length = -1 := by
  match i, h with
  | 0, _ => decide
  | 1, _ => decide
  | 2, _ => decide
  | 3, _ => decide
def shF (n s u f : Int) : Int := if bits .and .i64 f n = n then bits .andNot .i64 (bits .or .i64 f s) u else f
theorem sh_rng {n s u f : Int} (hs : 0 ≤ s ∧ s ≤ 3) (hu : 0 ≤ u ∧ u ≤ 3) (hf : 0 ≤ f ∧ f ≤ 3) : 0 ≤ bits .andNot .i64 (bits .or .i64 f s) u ∧ bits .andNot .i64 (bits .or .i64 f s) u ≤ 3 := by
  rcases four_int hs with rfl | rfl | rfl | rfl <;> rcases four_int hu with rfl | rfl | rfl | rfl <;> rcases four_int hf with rfl | rfl | rfl | rfl <;> decide
section
variable {n s u x : Int}
theorem f4_x (hx : 0 ≤ x ∧ x ≤ 3) : F4.getD x.toNat 0 = x := by rw [f4_get (by omega)]; omega
theorem sf_no (hx : 0 ≤ x ∧ x ≤ 3) (h : ¬ bits .and .i64 (F4.getD x.toNat 0) n = n) : shF n s u x = x := by
  rw [f4_x hx] at h; unfold shF; rw [if_neg h]
theorem sf_yes (hx : 0 ≤ x ∧ x ≤ 3) (hs : 0 ≤ s ∧ s ≤ 3) (hu : 0 ≤ u ∧ u ≤ 3) (h : bits .and .i64 (F4.getD x.toNat 0) n = n) : idxB (fun k => decide (bits .andNot .i64 (bits .or .i64 (F4.getD x.toNat 0) s) u = F4.getD k 0)) F4.length = shF n s u x := by
  rw [f4_x hx] at h ⊢; unfold shF; rw [if_pos h, f4_idx (sh_rng (n := n) hs hu hx)]
theorem sf_dead {s u x : Int} (hx : 0 ≤ x ∧ x ≤ 3) (hs : 0 ≤ s ∧ s ≤ 3) (hu : 0 ≤ u ∧ u ≤ 3) (h : ¬ 0 ≤ idxB (fun k => decide (bits .andNot .i64 (bits .or .i64 (F4.getD x.toNat 0) s) u = F4.getD k 0)) F4.length) : False := by
  rw [f4_x hx, f4_idx (sh_rng (n := 0) hs hu hx)] at h
  exact h (sh_rng (n := 0) hs hu hx).1
end
def wfB (n b : Int) (q : Nat) : Bool := decide (bits .and .i64 (q : Int) n = n) && decide (bits .and .i64 (q : Int) b = 0)
def withL (n b : Int) (k : Nat) : List Int := ((List.range k).filter (wfB n b)).map fun q : Nat => (q : Int)
theorem wf_y {n b : Int} {k : Nat} (hk : k < 4) (h : bits .and .i64 (F4.getD k 0) n = n) (h2 : bits .and .i64 (F4.getD k 0) b = 0) : wfB n b k = true := by
  rw [f4_get hk] at h h2; unfold wfB; rw [decide_eq_true h, decide_eq_true h2]; rfl
theorem wf_n1 {n b : Int} {k : Nat} (hk : k < 4) (h : ¬ bits .and .i64 (F4.getD k 0) n = n) : wfB n b k = false := by
  rw [f4_get hk] at h; unfold wfB; rw [decide_eq_false h]; rfl
theorem wf_n2 {n b : Int} {k : Nat} (hk : k < 4) (h2 : ¬ bits .and .i64 (F4.getD k 0) b = 0) : wfB n b k = false := by
  rw [f4_get hk] at h2; unfold wfB; rw [decide_eq_false h2, Bool.and_false]
theorem with_zero (n b : Int) : [] = withL n b 0 := rfl
theorem with_put {n b : Int} {k : Nat} (h : wfB n b k = true) : withL n b k ++ [(k : Int)] = withL n b (k + 1) := by simp [withL, List.range_succ, List.filter_append, h]
theorem with_no {n b : Int} {k : Nat} (h : wfB n b k = false) : withL n b k = withL n b (k + 1) := by simp [withL, List.range_succ, List.filter_append, h]
theorem with_pre (n b : Int) (k : Nat) : ∀ m, k ≤ m → ∃ r, withL n b m = withL n b k ++ r
  | 0, h => ⟨[], by rw [show k = 0 from by omega]; simp⟩
  | m + 1, h => by
    by_cases e : k = m + 1
    · subst e; exact ⟨[], by simp⟩
    · obtain ⟨r, h1⟩ := with_pre n b k m (by omega)
      cases hf : wfB n b m
      · exact ⟨r, by rw [← with_no hf, h1]⟩
      · exact ⟨r ++ [(m : Int)], by rw [← with_put hf, h1, List.append_assoc]⟩
theorem with_at {n b : Int} {k m : Nat} (hk : k < m) (h : wfB n b k = true) : (withL n b k).length < (withL n b m).length ∧ (withL n b m).getD (withL n b k).length 0 = (k : Int) := by
  obtain ⟨r, h1⟩ := with_pre n b (k + 1) m (by omega)
  rw [h1, ← with_put h]
  exact ⟨by simp, by simp [List.getD_eq_getElem?_getD]⟩
theorem with_len (n b : Int) (k : Nat) : (withL n b k).length ≤ k := by
  unfold withL; rw [List.length_map]; exact Nat.le_trans (List.length_filter_le _ _) (by simp)
section
variable {f : Int → Int} {ws : List Int} {k : Nat}
theorem mp_zero (f : Int → Int) (ws : List Int) : ws = (ws.take 0).map f ++ ws.drop 0 := by simp
theorem mp_get {ws : List Int} {k : Nat} (hk : k < ws.length) : ws.drop k = ws.getD k 0 :: ws.drop (k + 1) := by
  rw [List.drop_eq_getElem_cons hk]; congr 1; simp [List.getD_eq_getElem?_getD, hk]
theorem mp_set (hk : k < ws.length) {v : Int} (h : v = f (ws.getD k 0)) : ((ws.take k).map f ++ ws.drop k).set k v = (ws.take (k + 1)).map f ++ ws.drop (k + 1) := by
  have e : ((ws.take k).map f).length = k := by simp; omega
  rw [List.set_append_right _ _ (by omega), e, Nat.sub_self, mp_get hk, List.set_cons_zero, take_succ hk (0 : Int), List.map_append, h]; simp
theorem mp_same (hk : k < ws.length) (h : f (ws.getD k 0) = ws.getD k 0) : (ws.take k).map f ++ ws.drop k = (ws.take (k + 1)).map f ++ ws.drop (k + 1) := by
  rw [mp_get hk, take_succ hk (0 : Int), List.map_append]; simp only [List.map_cons, List.map_nil, h, List.append_assoc, List.cons_append, List.nil_append]
theorem mp_all (hk : ws.length ≤ k) : (ws.take k).map f ++ ws.drop k = ws.map f := by rw [List.take_of_length_le hk, List.drop_eq_nil_of_le hk, List.append_nil]
theorem mp_len (hk : k ≤ ws.length) : ((ws.take k).map f ++ ws.drop k).length = ws.length := by simp; omega
end
section
variable {n b s u x : Int} {k : Nat} {f : Int → Int} {ws : List Int}
theorem mp_getD (hk : k < ws.length) : (ws.map f).getD k 0 = f (ws.getD k 0) := by simp [List.getD_eq_getElem?_getD, hk]
theorem sf_t (h : bits .and .i64 x n = n) : shF n s u x = bits .andNot .i64 (bits .or .i64 x s) u := if_pos h
theorem sf_f (h : ¬ bits .and .i64 x n = n) : shF n s u x = x := if_neg h
theorem wf_m (h : bits .and .i64 (k : Int) n = n) (h2 : bits .and .i64 (k : Int) b = 0) : wfB n b k = true := by unfold wfB; rw [decide_eq_true h, decide_eq_true h2]; rfl
theorem wf_m1 (h : ¬ bits .and .i64 (k : Int) n = n) : wfB n b k = false := by unfold wfB; rw [decide_eq_false h]; rfl
theorem wf_m2 (h : ¬ bits .and .i64 (k : Int) b = 0) : wfB n b k = false := by unfold wfB; rw [decide_eq_false h, Bool.and_false]
theorem with_s1 (h : wfB n b k = true) : ((withL n b k).length : Int) + 1 = ((withL n b (k + 1)).length : Int) := by rw [← with_put h]; simp
theorem with_s2 (h : wfB n b k = false) : ((withL n b k).length : Int) = ((withL n b (k + 1)).length : Int) := by rw [← with_no h]
end
end Go.WX
