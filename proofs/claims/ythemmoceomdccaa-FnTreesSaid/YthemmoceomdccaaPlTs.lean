/- Plain laws on what is read off a tree: its depth, its mirror, its state; no program. No condition. -/
import Derived.Test.YthemmoceomdccaaPlTr
import Derived.Test.YthemmoceomdccaaPlX
import Derived.Test.YthemmoceomdccaaPlM
namespace Go.WX
open Go

theorem okTr_mono {L M : Int} (hl : L ≤ M) : ∀ t : Tre, okTr L t → okTr M t
  | .leaf x, h => by
    have h0 : 0 ≤ x ∧ x ≤ L - 1 := h
    exact ⟨h0.1, by omega⟩
  | .node a b, h => ⟨okTr_mono hl a h.1, okTr_mono hl b h.2⟩
theorem leaf_of {L : Int} {t : Tre} (h : okTr L t) (h0 : 0 ≤ (flatT t).getD 0 0) : ∃ x, t = .leaf x ∧ 0 ≤ x ∧ x ≤ L - 1 := by
  cases t with
  | leaf x => exact ⟨x, rfl, h.1, h.2⟩
  | node a b => simp [flatT] at h0
theorem node_of {L : Int} {t : Tre} (h : okTr L t) (h0 : ¬ 0 ≤ (flatT t).getD 0 0) : ∃ a b, t = .node a b ∧ okTr L a ∧ okTr L b ∧ (flatT t).length = 1 + (flatT a).length + (flatT b).length := by
  cases t with
  | leaf x =>
    have h1 : 0 ≤ x ∧ x ≤ L - 1 := h
    exact absurd h1.1 h0
  | node a b => exact ⟨a, b, rfl, h.1, h.2, by simp [flatT]; omega⟩
open Classical in
noncomputable def trOf (L : Int) (xs : List Int) : Tre := if h : ∃ t, xs = flatT t ∧ okTr L t then Classical.choose h else .leaf 0
theorem trOf_flat {L : Int} {t : Tre} (h : okTr L t) : trOf L (flatT t) = t := by
  have hex : ∃ t', flatT t = flatT t' ∧ okTr L t' := ⟨t, rfl, h⟩
  unfold trOf
  rw [dif_pos hex]
  have hc := Classical.choose_spec hex
  exact (flatT_inj _ _ [] [] L hc.2 h (by rw [← hc.1])).1
theorem node_left {a b : Tre} {u : Nat} (hu : u = 1 + (flatT a).length) : ((flatT (.node a b)).take u).drop 1 = flatT a := by
  subst hu
  rw [flatT, Nat.add_comm, List.take_succ_cons, List.drop_succ_cons, List.drop_zero, List.take_left]
theorem node_right {a b : Tre} {u : Nat} (hu : u = 1 + (flatT a).length) : (flatT (.node a b)).drop u = flatT b := by
  subst hu
  rw [flatT, Nat.add_comm, List.drop_succ_cons, List.drop_left]

/-! ### Depth -/
def deepT : Tre → Int
  | .leaf _ => 0
  | .node a b => 1 + max (deepT a) (deepT b)
theorem deep_rng : ∀ t : Tre, 0 ≤ deepT t ∧ deepT t + 1 ≤ ((flatT t).length : Int)
  | .leaf x => by simp [deepT, flatT]
  | .node a b => by
    have h1 := deep_rng a; have h2 := deep_rng b
    simp only [deepT, flatT, List.length_cons, List.length_append]; omega
def fbDeep (a b : Int) : Int := IntKind.i64.wrap (1 + (if b > a then b else a))
theorem ev_deep : ∀ t : Tre, (flatT t).length ≤ 23 → evT (fun _ => (0 : Int)) fbDeep t = deepT t
  | .leaf x, _ => rfl
  | .node a b, h => by
    simp only [flatT, List.length_cons, List.length_append] at h
    have h1 := deep_rng a; have h2 := deep_rng b
    rw [evT, ev_deep a (by omega), ev_deep b (by omega), fbDeep, wr64 _ (by split <;> omega) (by split <;> omega), deepT]
    split <;> omega
noncomputable def dpL (L : Int) (xs : List Int) : Int := if treeB L xs = true then deepT (trOf L xs) else 0
theorem dpL_no {L : Int} {xs : List Int} (h : treeB L xs = false) : dpL L xs = 0 := by unfold dpL; rw [if_neg (by rw [h]; decide)]
theorem dpL_yes {L : Int} {t : Tre} (h : okTr L t) (hl : (flatT t).length ≤ 23) : dpL L (flatT t) = deepT t := by unfold dpL; rw [if_pos (of_tree h hl), trOf_flat h]

/-! ### Mirror -/
def mirT : Tre → Tre
  | .leaf x => .leaf x
  | .node a b => .node (mirT b) (mirT a)
theorem mir_len : ∀ t : Tre, (flatT (mirT t)).length = (flatT t).length
  | .leaf _ => rfl
  | .node a b => by simp only [mirT, flatT, List.length_cons, List.length_append, mir_len a, mir_len b]; omega
theorem ev_mir : ∀ t : Tre, evT (fun x => [x]) (fun a b => -1 :: (b ++ a)) t = flatT (mirT t)
  | .leaf x => rfl
  | .node a b => by rw [evT, ev_mir a, ev_mir b]; rfl
noncomputable def mrL (xs : List Int) : List Int := if treeB 4 xs = true then flatT (mirT (trOf 4 xs)) else []
theorem mrL_no {xs : List Int} (h : treeB 4 xs = false) : mrL xs = [] := by unfold mrL; rw [if_neg (by rw [h]; decide)]
theorem mrL_yes {t : Tre} (h : okTr 4 t) (hl : (flatT t).length ≤ 23) : mrL (flatT t) = flatT (mirT t) := by unfold mrL; rw [if_pos (of_tree h hl), trOf_flat h]
theorem mrL_len (xs : List Int) : (mrL xs).length ≤ xs.length := by
  unfold mrL
  split
  · rename_i h
    obtain ⟨t, rfl, ht⟩ := tree_of h
    rw [trOf_flat ht, mir_len]; exact Nat.le_refl _
  · simp

/-! ### State -/
def fbSt (a0 : Int) (nx : List Int) (a b : Int) : Int := nx.getD (a * a0 + b).toNat 0
def stT (a0 : Int) (lf nx : List Int) : Tre → Int := evT (fun x => lf.getD x.toNat 0) (fbSt a0 nx)
noncomputable def stL (ok : Bool) (a0 L : Int) (lf nx : List Int) (xs : List Int) : Int := if ok = true ∧ treeB L xs = true then stT a0 lf nx (trOf L xs) else 0
theorem stL_no {ok : Bool} {a0 L : Int} {lf nx xs : List Int} (h : ok = false ∨ treeB L xs = false) : stL ok a0 L lf nx xs = 0 := by
  unfold stL; rw [if_neg (by rintro ⟨h1, h2⟩; rcases h with h | h <;> simp [h] at h1 h2)]
theorem stL_yes {ok : Bool} {a0 L : Int} {lf nx : List Int} {t : Tre} (ho : ok = true) (h : okTr L t) (hl : (flatT t).length ≤ 23) : stL ok a0 L lf nx (flatT t) = stT a0 lf nx t := by
  unfold stL; rw [if_pos ⟨ho, of_tree h hl⟩, trOf_flat h]
theorem isTreeBL {L : Int} {xs : List Int} (h : 1 ≤ L ∧ L ≤ 4) : isTreeB L xs = treeB L xs := by simp [isTreeB, h]
theorem st_rng {a0 L : Int} {lf nx : List Int} (hs : 1 ≤ a0 ∧ a0 ≤ 16) (hl : (lf.length : Int) = L) (hn : (nx.length : Int) = a0 * a0) (h1 : allIn lf 0 (a0 - 1) = true) (h2 : allIn nx 0 (a0 - 1) = true) : ∀ t : Tre, okTr L t → 0 ≤ stT a0 lf nx t ∧ stT a0 lf nx t ≤ a0 - 1 :=
  ev_P (PS := fun s => 0 ≤ s ∧ s ≤ a0 - 1) (fun x hx => allIn_get h1 (by omega)) (fun a b ha hb => by
    have hix := sq_idx (q := a) (r := b) hs (by omega) (by omega) hn
    exact allIn_get h2 (by omega))
theorem treesB_of {s l : Int} {a b : List Int} {c : List Bool} (h : treesB s l a b c = true) : (1 ≤ s ∧ s ≤ 16) ∧ (1 ≤ l ∧ l ≤ 4) ∧ (a.length : Int) = l ∧ (b.length : Int) = s * s ∧ (c.length : Int) = s ∧ allIn a 0 (s - 1) = true ∧ allIn b 0 (s - 1) = true := by
  unfold treesB at h; simpa using h
theorem stL_rng {ok : Bool} {a0 L : Int} {lf nx xs : List Int} (hs : 1 ≤ a0 ∧ a0 ≤ 16) (hl : (lf.length : Int) = L) (hn : (nx.length : Int) = a0 * a0) (h1 : allIn lf 0 (a0 - 1) = true) (h2 : allIn nx 0 (a0 - 1) = true) (ho : ok = true) (ht : treeB L xs = true) : 0 ≤ stL ok a0 L lf nx xs ∧ stL ok a0 L lf nx xs ≤ a0 - 1 := by
  obtain ⟨t, rfl, h⟩ := tree_of ht
  rw [stL, if_pos ⟨ho, ht⟩, trOf_flat h]
  exact st_rng hs hl hn h1 h2 t h
noncomputable def rdT (ok : Bool) (a0 L : Int) (lf nx : List Int) (en : List Bool) (xs : List Int) : Bool := (ok && treeB L xs) && en.getD (stL ok a0 L lf nx xs).toNat false
theorem rdT_no {ok : Bool} {a0 L : Int} {lf nx : List Int} {en : List Bool} {xs : List Int} (h : (ok && treeB L xs) = false) : rdT ok a0 L lf nx en xs = false := by rw [rdT, h, Bool.false_and]
theorem rdT_yes {ok : Bool} {a0 L : Int} {lf nx : List Int} {en : List Bool} {xs : List Int} (h : (ok && treeB L xs) = true) : rdT ok a0 L lf nx en xs = en.getD (stL ok a0 L lf nx xs).toNat false := by rw [rdT, h, Bool.true_and]
end Go.WX
