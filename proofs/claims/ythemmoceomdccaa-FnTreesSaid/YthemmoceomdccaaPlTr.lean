/- Plain laws on trees that are written as lists, and on folding them from their leaves on; no program. No condition. -/
import Derived.Test.YthemmoceomdccaaPlA
namespace Go.WX
open Go

inductive Tre where
  | leaf (x : Int)
  | node (a b : Tre)
def flatT : Tre → List Int
  | .leaf x => [x]
  | .node a b => -1 :: (flatT a ++ flatT b)
def flatsT (ts : List Tre) : List Int := ts.flatMap flatT
def okTr (L : Int) : Tre → Prop
  | .leaf x => 0 ≤ x ∧ x ≤ L - 1
  | .node a b => okTr L a ∧ okTr L b
def evT {α : Type} (fl : Int → α) (fb : α → α → α) : Tre → α
  | .leaf x => fl x
  | .node a b => fb (evT fl fb a) (evT fl fb b)
theorem flatT_pos : ∀ t : Tre, 1 ≤ (flatT t).length
  | .leaf _ => by simp [flatT]
  | .node a b => by simp [flatT]
theorem flatsT_cons (t : Tre) (r : List Tre) : flatsT (t :: r) = flatT t ++ flatsT r := rfl
theorem sk_trees {L : Int} : ∀ (xs : List Int) (c m : Nat), sk L xs c = some m → ∃ ts : List Tre, ts.length = c ∧ xs = flatsT ts ++ xs.drop m ∧ ∀ t ∈ ts, okTr L t
  | xs, 0, m, h => by
    rw [sk_zero] at h; cases h
    exact ⟨[], rfl, rfl, by simp⟩
  | [], c + 1, m, h => by simp [sk] at h
  | x :: xs, c + 1, m, h => by
    simp only [sk] at h
    split at h
    · rename_i hx
      cases h1 : sk L xs (c + 2) with
      | none => rw [h1] at h; cases h
      | some d =>
        rw [h1] at h; simp at h; subst h
        obtain ⟨ts, k1, k2, k3⟩ := sk_trees xs (c + 2) d h1
        match ts, k1 with
        | a :: b :: r, k1 =>
          refine ⟨.node a b :: r, by simpa using k1, ?_, fun t ht => ?_⟩
          · rw [hx, flatsT_cons, flatT, List.drop_succ_cons, List.cons_append]
            refine congrArg (fun l => (-1 : Int) :: l) (k2.trans ?_)
            show _ = (flatT a ++ flatT b ++ flatsT r) ++ List.drop d xs
            simp only [flatsT_cons, List.append_assoc]
          · rcases List.mem_cons.1 ht with rfl | ht
            · exact ⟨k3 a (by simp), k3 b (by simp)⟩
            · exact k3 t (by simp [ht])
    · split at h
      · rename_i hx
        cases h1 : sk L xs c with
        | none => rw [h1] at h; cases h
        | some d =>
          rw [h1] at h; simp at h; subst h
          obtain ⟨ts, k1, k2, k3⟩ := sk_trees xs c d h1
          refine ⟨.leaf x :: ts, by simp [k1], ?_, fun t ht => ?_⟩
          · rw [flatsT_cons, flatT, List.drop_succ_cons, List.cons_append, List.cons_append, List.nil_append]
            congr 1
          · rcases List.mem_cons.1 ht with rfl | ht
            · exact hx
            · exact k3 t ht
      · cases h
theorem sk_flat {L : Int} : ∀ (t : Tre) (r : List Int) (n : Nat), okTr L t → sk L (flatT t ++ r) (n + 1) = (sk L r n).map (· + (flatT t).length)
  | .leaf x, r, n, h => by
    have h0 : 0 ≤ x ∧ x ≤ L - 1 := h
    have : x ≠ -1 := by omega
    simp only [flatT, List.cons_append, List.nil_append, sk, this, if_false, h0, and_self, if_true, List.length_cons, List.length_nil]
  | .node a b, r, n, h => by
    have h0 : okTr L a ∧ okTr L b := h
    simp only [flatT, List.cons_append, sk, if_true, List.append_assoc]
    rw [sk_flat a _ (n + 1) h0.1, sk_flat b _ n h0.2]
    cases sk L r n with
    | none => rfl
    | some d => simp only [Option.map_some, List.length_cons, List.length_append]; congr 1; omega
theorem tree_of {L : Int} {xs : List Int} (h : treeB L xs = true) : ∃ T : Tre, xs = flatT T ∧ okTr L T := by
  simp only [treeB, decide_eq_true_eq] at h
  have h1 := h.2
  rw [endI_zero] at h1
  cases h2 : sk L xs 1 with
  | none => rw [h2] at h1; simp at h1
  | some m =>
    rw [h2] at h1
    have hm : m = xs.length := by simp at h1; omega
    obtain ⟨ts, k1, k2, k3⟩ := sk_trees xs 1 m h2
    match ts, k1 with
    | [T], _ =>
      refine ⟨T, ?_, k3 T (by simp)⟩
      rw [hm, List.drop_length, List.append_nil] at k2
      simpa [flatsT] using k2
theorem of_tree {L : Int} {T : Tre} (h : okTr L T) (hl : (flatT T).length ≤ 23) : treeB L (flatT T) = true := by
  simp only [treeB, decide_eq_true_eq]
  refine ⟨hl, ?_⟩
  have := sk_flat T [] 0 h
  rw [List.append_nil, sk_zero] at this
  rw [endI_zero, this]; simp
/-- Where the first tree of a branch ends. -/
theorem end_node {L : Int} {a b : Tre} (h : okTr L (.node a b)) : endI L (flatT (.node a b)) 1 = 1 + ((flatT a).length : Int) := by
  have h0 : okTr L a ∧ okTr L b := h
  unfold endI
  rw [if_neg (by omega)]
  have : (1 : Int).toNat = 1 := rfl
  rw [this]
  simp only [flatT, List.drop_succ_cons, List.drop_zero]
  have := sk_flat a (flatT b) 0 h0.1
  rw [sk_zero] at this
  rw [this]; simp only [Option.map_some]; omega
theorem flatT_inj : ∀ (t t' : Tre) (r r' : List Int) (L : Int), okTr L t → okTr L t' → flatT t ++ r = flatT t' ++ r' → t = t' ∧ r = r'
  | .leaf x, .leaf y, r, r', L, _, _, e => by
    simp only [flatT, List.cons_append, List.nil_append, List.cons.injEq] at e
    rw [e.1]; exact ⟨rfl, e.2⟩
  | .leaf x, .node a b, r, r', L, h, _, e => by
    have h0 : 0 ≤ x ∧ x ≤ L - 1 := h
    simp only [flatT, List.cons_append, List.nil_append, List.cons.injEq] at e
    omega
  | .node a b, .leaf y, r, r', L, _, h, e => by
    have h0 : 0 ≤ y ∧ y ≤ L - 1 := h
    simp only [flatT, List.cons_append, List.nil_append, List.cons.injEq] at e
    omega
  | .node a b, .node c d, r, r', L, h, k, e => by
    simp only [flatT, List.cons_append, List.cons.injEq, true_and, List.append_assoc] at e
    obtain ⟨h1, e2⟩ := flatT_inj a c _ _ L h.1 k.1 e
    obtain ⟨h3, e4⟩ := flatT_inj b d _ _ L h.2 k.2 e2
    rw [h1, h3]; exact ⟨rfl, e4⟩
/-- Leaves less branches. -/
def hgT : List Int → Int
  | [] => 0
  | x :: r => if 0 ≤ x then hgT r + 1 else hgT r - 1
theorem hg_flat {L : Int} : ∀ (t : Tre) (r : List Int), okTr L t → hgT (flatT t ++ r) = hgT r + 1
  | .leaf x, r, h => by
    have h0 : 0 ≤ x ∧ x ≤ L - 1 := h
    simp only [flatT, List.cons_append, List.nil_append, hgT, if_pos h0.1]
  | .node a b, r, h => by
    simp only [flatT, List.cons_append, List.append_assoc, hgT]
    rw [if_neg (by omega), hg_flat a _ h.1, hg_flat b _ h.2]; omega
theorem hg_flats {L : Int} : ∀ (ts : List Tre), (∀ t ∈ ts, okTr L t) → hgT (flatsT ts) = ts.length
  | [], _ => rfl
  | t :: r, h => by
    rw [flatsT_cons, hg_flat t _ (h t (by simp)), hg_flats r (fun t ht => h t (by simp [ht])), List.length_cons]; omega
theorem hg_drop {L : Int} : ∀ (t : Tre) (r : List Int) (i : Nat), okTr L t → i < (flatT t).length → hgT r + 1 ≤ hgT ((flatT t ++ r).drop i)
  | .leaf x, r, i, h, hi => by
    have h0 : 0 ≤ x ∧ x ≤ L - 1 := h
    have : i = 0 := by simp [flatT] at hi; exact hi
    subst this
    simp only [flatT, List.cons_append, List.nil_append, List.drop_zero, hgT, if_pos h0.1]; omega
  | .node a b, r, 0, h, hi => by rw [List.drop_zero, hg_flat _ _ h]; omega
  | .node a b, r, i + 1, h, hi => by
    simp only [flatT, List.cons_append, List.append_assoc, List.drop_succ_cons]
    simp only [flatT, List.length_cons, List.length_append] at hi
    by_cases e : i < (flatT a).length
    · have h1 := hg_drop a (flatT b ++ r) i h.1 e
      rw [hg_flat b _ h.2] at h1; omega
    · rw [List.drop_append, List.drop_eq_nil_of_le (by omega), List.nil_append]
      exact hg_drop b r _ h.2 (by omega)
theorem flat_mem {L : Int} : ∀ (t : Tre), okTr L t → ∀ x ∈ flatT t, x = -1 ∨ (0 ≤ x ∧ x ≤ L - 1)
  | .leaf y, h, x, hx => by simp [flatT] at hx; subst hx; exact .inr h
  | .node a b, h, x, hx => by
    simp only [flatT, List.mem_cons, List.mem_append] at hx
    rcases hx with rfl | hx | hx
    · exact .inl rfl
    · exact flat_mem a h.1 x hx
    · exact flat_mem b h.2 x hx
/-- The stack when k numbers have come, from the end on. -/
def FI {α : Type} (L : Int) (T : Tre) (fl : Int → α) (fb : α → α → α) (k : Nat) (sk : List α) : Prop := ∃ ts : List Tre, (flatT T).drop ((flatT T).length - k) = flatsT ts ∧ sk = (ts.map (evT fl fb)).reverse ∧ ∀ t ∈ ts, okTr L t
section
variable {α : Type} {L : Int} {T : Tre} {fl : Int → α} {fb : α → α → α} {k : Nat} {sk : List α}
theorem FI.zero (L : Int) (T : Tre) (fl : Int → α) (fb : α → α → α) : FI L T fl fb 0 [] := ⟨[], by simp [flatsT], rfl, by simp⟩
theorem drop_at (hk : k < (flatT T).length) : (flatT T).drop ((flatT T).length - (k + 1)) = (flatT T).getD ((flatT T).length - 1 - k) 0 :: (flatT T).drop ((flatT T).length - k) := by
  have e : (flatT T).length - (k + 1) = (flatT T).length - 1 - k := by omega
  rw [e, List.drop_eq_getElem_cons (show (flatT T).length - 1 - k < (flatT T).length by omega)]
  congr 1
  · simp [List.getD_eq_getElem?_getD, show (flatT T).length - 1 - k < (flatT T).length from by omega]
  · congr 1; omega
theorem FI.mem (hT : okTr L T) (hk : k < (flatT T).length) (hx : 0 ≤ (flatT T).getD ((flatT T).length - 1 - k) 0) : 0 ≤ (flatT T).getD ((flatT T).length - 1 - k) 0 ∧ (flatT T).getD ((flatT T).length - 1 - k) 0 ≤ L - 1 := by
  have e : (flatT T).getD ((flatT T).length - 1 - k) 0 = (flatT T)[(flatT T).length - 1 - k]'(by omega) := by simp [List.getD_eq_getElem?_getD, show (flatT T).length - 1 - k < (flatT T).length from by omega]
  have hm9 : (flatT T).getD ((flatT T).length - 1 - k) 0 ∈ flatT T := by rw [e]; exact List.getElem_mem _
  rcases flat_mem T hT _ hm9 with h | h
  · omega
  · exact h
theorem FI.leaf (h : FI L T fl fb k sk) (hT : okTr L T) (hk : k < (flatT T).length) (hx : 0 ≤ (flatT T).getD ((flatT T).length - 1 - k) 0) : FI L T fl fb (k + 1) (sk ++ [fl ((flatT T).getD ((flatT T).length - 1 - k) 0)]) := by
  obtain ⟨ts, h1, h2, h3⟩ := h
  refine ⟨.leaf ((flatT T).getD ((flatT T).length - 1 - k) 0) :: ts, ?_, ?_, fun t ht => ?_⟩
  · rw [drop_at hk, h1]; rfl
  · rw [h2]; simp [evT]
  · rcases List.mem_cons.1 ht with rfl | ht
    · exact FI.mem hT hk hx
    · exact h3 t ht
theorem FI.two (h : FI L T fl fb k sk) (hT : okTr L T) (hk : k < (flatT T).length) (hx : ¬ 0 ≤ (flatT T).getD ((flatT T).length - 1 - k) 0) : 2 ≤ sk.length := by
  obtain ⟨ts, h1, h2, h3⟩ := h
  have h4 := hg_drop T [] ((flatT T).length - (k + 1)) hT (by omega)
  rw [List.append_nil, drop_at hk, h1] at h4
  simp only [hgT] at h4
  rw [if_neg hx, hg_flats ts h3] at h4
  rw [h2]; simp only [hgT, List.length_reverse, List.length_map] at *; omega
theorem FI.node (h : FI L T fl fb k sk) (hT : okTr L T) (hk : k < (flatT T).length) (hx : ¬ 0 ≤ (flatT T).getD ((flatT T).length - 1 - k) 0) {i j : Nat} (hi : i = sk.length - 1) (hj : j = sk.length - 2) (d : α) :
    FI L T fl fb (k + 1) ((sk.set j (fb (sk.getD i d) (sk.getD j d))).take i) := by
  have hx1 : (flatT T).getD ((flatT T).length - 1 - k) 0 = -1 := by
    have e : (flatT T).getD ((flatT T).length - 1 - k) 0 = (flatT T)[(flatT T).length - 1 - k]'(by omega) := by simp [List.getD_eq_getElem?_getD, show (flatT T).length - 1 - k < (flatT T).length from by omega]
    have hm9 : (flatT T).getD ((flatT T).length - 1 - k) 0 ∈ flatT T := by rw [e]; exact List.getElem_mem _
    rcases flat_mem T hT _ hm9 with h | h
    · exact h
    · omega
  have h2l := h.two hT hk hx
  obtain ⟨ts, h1, h2, h3⟩ := h
  subst hi; subst hj
  match ts, h2 with
  | [], h2 => rw [h2] at h2l; simp at h2l
  | [a], h2 => rw [h2] at h2l; simp at h2l
  | a :: b :: r, h2 =>
    refine ⟨.node a b :: r, ?_, ?_, fun t ht => ?_⟩
    · rw [drop_at hk, h1, hx1, flatsT_cons, flatsT_cons, flatsT_cons, flatT, List.cons_append, List.append_assoc]
    · have e : sk = (r.map (evT fl fb)).reverse ++ [evT fl fb b] ++ [evT fl fb a] := by rw [h2]; simp
      have hl : ((r.map (evT fl fb)).reverse).length = r.length := by simp
      rw [e]
      have l1 : ((r.map (evT fl fb)).reverse ++ [evT fl fb b] ++ [evT fl fb a]).length - 1 = r.length + 1 := by simp
      have l2 : ((r.map (evT fl fb)).reverse ++ [evT fl fb b] ++ [evT fl fb a]).length - 2 = r.length := by simp
      rw [l1, l2]
      have g1 : ((r.map (evT fl fb)).reverse ++ [evT fl fb b] ++ [evT fl fb a]).getD (r.length + 1) d = evT fl fb a := by
        rw [List.getD_eq_getElem?_getD, List.getElem?_append_right (by simp)]; simp
      have g2 : ((r.map (evT fl fb)).reverse ++ [evT fl fb b] ++ [evT fl fb a]).getD r.length d = evT fl fb b := by
        rw [List.append_assoc, List.getD_eq_getElem?_getD, List.getElem?_append_right (by simp)]; simp
      rw [g1, g2, List.append_assoc, List.set_append_right _ _ (by simp), List.take_append]
      simp [evT, List.take_of_length_le]
    · rcases List.mem_cons.1 ht with rfl | ht
      · exact ⟨h3 a (by simp), h3 b (by simp)⟩
      · exact h3 t (by simp [ht])
theorem FI.end (h : FI L T fl fb k sk) (hT : okTr L T) (hk : (flatT T).length ≤ k) : sk = [evT fl fb T] := by
  obtain ⟨ts, h1, h2, h3⟩ := h
  rw [show (flatT T).length - k = 0 by omega, List.drop_zero] at h1
  have h4 := hg_flats ts h3
  have h5 := hg_flat T [] hT
  rw [List.append_nil, h1] at h5
  rw [h5] at h4
  match ts, h4 with
  | [t], _ =>
    have h6 : flatT T = flatT t := by simpa [flatsT] using h1
    obtain ⟨rfl, _⟩ := flatT_inj T t [] [] L hT (h3 t (by simp)) (by simpa using h6)
    rw [h2]; rfl
  | [], h4 => simp [hgT] at h4
  | a :: b :: r, h4 => simp [hgT] at h4; omega
theorem ev_P {PS : α → Prop} (hl : ∀ x, 0 ≤ x ∧ x ≤ L - 1 → PS (fl x)) (hb : ∀ a b, PS a → PS b → PS (fb a b)) : ∀ t : Tre, okTr L t → PS (evT fl fb t)
  | .leaf x, h => hl x h
  | .node a b, h => hb _ _ (ev_P hl hb a h.1) (ev_P hl hb b h.2)
theorem FI.P {PS : α → Prop} (h : FI L T fl fb k sk) (hl : ∀ x, 0 ≤ x ∧ x ≤ L - 1 → PS (fl x)) (hb : ∀ a b, PS a → PS b → PS (fb a b)) {i : Nat} {d : α} (hi : i < sk.length) : PS (sk.getD i d) := by
  obtain ⟨ts, _, h2, h3⟩ := h
  have e : sk.getD i d = sk[i] := by simp [List.getD_eq_getElem?_getD, hi]
  have hm : sk.getD i d ∈ sk := by rw [e]; exact List.getElem_mem hi
  rw [h2] at hm
  rw [h2]
  obtain ⟨t, ht, he⟩ := List.mem_map.1 (List.mem_reverse.1 hm)
  rw [← he]
  exact ev_P hl hb t (h3 t ht)
theorem FI.len (h : FI L T fl fb k sk) (hk : k ≤ (flatT T).length) : sk.length ≤ (flatT T).length := by
  obtain ⟨ts, h1, h2, _⟩ := h
  have key : ∀ ts : List Tre, ts.length ≤ (flatsT ts).length := by
    intro ts
    induction ts with
    | nil => simp
    | cons t r ih => rw [flatsT_cons, List.length_append, List.length_cons]; have := flatT_pos t; omega
  have h4 := key ts
  rw [← h1, List.length_drop] at h4
  rw [h2]; simp; omega
end
end Go.WX
