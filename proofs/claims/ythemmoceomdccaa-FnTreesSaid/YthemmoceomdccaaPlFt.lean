/- The states that a machine of trees finds, in order, and the trees by which they are found; no program. No condition. -/
import Derived.Test.YthemmoceomdccaaPlTs
import Derived.Test.YthemmoceomdccaaLibL
namespace Go.WX
open Go

/-! ### Putting what is found -/
def hasS (l : List R4) (s : Int) : Bool := l.any fun g => decide (g.1 = s)
def putF (l : List R4) (f : R4) : List R4 := if hasS l f.1 = true then l else l ++ [f]
def rS (l : List R4) (i : Nat) : Int := (l.getD i (0, 0, 0, 0)).1
theorem putF_has {l : List R4} {f : R4} (h : hasS l f.1 = true) : putF l f = l := by rw [putF, if_pos h]
theorem putF_new {l : List R4} {f : R4} (h : hasS l f.1 = false) : putF l f = l ++ [f] := by rw [putF, if_neg (by rw [h]; decide)]
theorem hasS_mem {l : List R4} {s : Int} : hasS l s = true ↔ s ∈ l.map (·.1) := by
  simp only [hasS, List.any_eq_true, decide_eq_true_eq, List.mem_map]
theorem hasS_no {l : List R4} {s : Int} (h : hasS l s = false) : s ∉ l.map (·.1) := fun h1 => by rw [hasS_mem.2 h1] at h; cases h
theorem putF_le (l : List R4) (f : R4) : l.length ≤ (putF l f).length := by
  unfold putF; split <;> simp
theorem putF_pre (l : List R4) (f : R4) : l <+: putF l f := by
  unfold putF; split
  · exact List.prefix_refl _
  · exact List.prefix_append _ _
theorem putF_mem (l : List R4) (f : R4) : f.1 ∈ (putF l f).map (·.1) := by
  unfold putF; split
  · rename_i h; exact hasS_mem.1 h
  · simp

/-- What is true of a list of found states. -/
structure FO (a0 a1 : Int) (l : List R4) : Prop where
  rng : ∀ f ∈ l, 0 ≤ f.1 ∧ f.1 ≤ a0 - 1
  nd : (l.map (·.1)).Nodup
  how : ∀ i : Nat, i < l.length → (0 ≤ (l.getD i (0, 0, 0, 0)).2.1 ∧ (l.getD i (0, 0, 0, 0)).2.1 ≤ a1 - 1) ∨
    ((l.getD i (0, 0, 0, 0)).2.1 = -1 ∧ (0 ≤ (l.getD i (0, 0, 0, 0)).2.2.1 ∧ (l.getD i (0, 0, 0, 0)).2.2.1 < i) ∧ (0 ≤ (l.getD i (0, 0, 0, 0)).2.2.2 ∧ (l.getD i (0, 0, 0, 0)).2.2.2 < i))
section
variable {a0 a1 : Int} {l : List R4} {f : R4}
theorem FO.nil (a0 a1 : Int) : FO a0 a1 [] := ⟨by simp, by simp, by simp⟩
theorem getD4_mem {i : Nat} (hi : i < l.length) : l.getD i (0, 0, 0, 0) ∈ l := by
  rw [List.getD_eq_getElem?_getD, List.getElem?_eq_getElem hi]; exact List.getElem_mem hi
theorem getD4_left {i : Nat} (l2 : List R4) (hi : i < l.length) : (l ++ l2).getD i (0, 0, 0, 0) = l.getD i (0, 0, 0, 0) := by
  rw [List.getD_eq_getElem?_getD, List.getElem?_append_left hi, ← List.getD_eq_getElem?_getD]
theorem getD4_last (f : R4) : (l ++ [f]).getD l.length (0, 0, 0, 0) = f := by
  rw [List.getD_eq_getElem?_getD, List.getElem?_append_right (Nat.le_refl _)]; simp
theorem FO.st (h : FO a0 a1 l) {i : Nat} (hi : i < l.length) : 0 ≤ rS l i ∧ rS l i ≤ a0 - 1 := h.rng _ (getD4_mem hi)
theorem FO.put (h : FO a0 a1 l) (h1 : 0 ≤ f.1 ∧ f.1 ≤ a0 - 1) (h2 : (0 ≤ f.2.1 ∧ f.2.1 ≤ a1 - 1) ∨ (f.2.1 = -1 ∧ (0 ≤ f.2.2.1 ∧ f.2.2.1 < l.length) ∧ (0 ≤ f.2.2.2 ∧ f.2.2.2 < l.length))) : FO a0 a1 (putF l f) := by
  cases hh : hasS l f.1 with
  | true => rw [putF_has hh]; exact h
  | false =>
    rw [putF_new hh]
    refine ⟨fun g hg => ?_, ?_, fun i hi => ?_⟩
    · rcases List.mem_append.1 hg with hg | hg
      · exact h.rng g hg
      · rw [List.mem_singleton] at hg; rw [hg]; exact h1
    · rw [List.map_append, List.nodup_append]
      refine ⟨h.nd, by simp, fun x hx y hy e => ?_⟩
      simp only [List.map_cons, List.map_nil, List.mem_singleton] at hy
      exact hasS_no hh (by rw [← hy, ← e]; exact hx)
    · rw [List.length_append, List.length_singleton] at hi
      by_cases e : i < l.length
      · rw [getD4_left _ e]; exact h.how i e
      · obtain rfl : i = l.length := by omega
        rw [getD4_last]; exact h2
theorem nodup_toNat {xs : List Int} (hd : xs.Nodup) (h : ∀ x ∈ xs, 0 ≤ x) : (xs.map Int.toNat).Nodup := by
  induction xs with
  | nil => simp
  | cons x r ih =>
    rw [List.nodup_cons] at hd
    rw [List.map_cons, List.nodup_cons]
    refine ⟨fun hm => ?_, ih hd.2 fun y hy => h y (List.mem_cons_of_mem _ hy)⟩
    obtain ⟨y, hy, e⟩ := List.mem_map.1 hm
    have h1 := h x List.mem_cons_self
    have h2 := h y (List.mem_cons_of_mem _ hy)
    exact hd.1 (by rw [show x = y by omega]; exact hy)
theorem nodup_len : ∀ (n : Nat) (l : List Nat), l.Nodup → (∀ x ∈ l, x < n) → l.length ≤ n
  | 0, [], _, _ => Nat.le_refl _
  | 0, x :: r, _, h => absurd (h x List.mem_cons_self) (Nat.not_lt_zero _)
  | n + 1, l, hd, h => by
    have h1 := nodup_len n (l.filter fun x => decide (x ≠ n)) (hd.filter _) (fun x hx => by
      rw [List.mem_filter] at hx
      have := h x hx.1
      have h2 : x ≠ n := by simpa using hx.2
      omega)
    have h2 : l.length ≤ (l.filter fun x => decide (x ≠ n)).length + 1 := by
      clear h h1
      induction l with
      | nil => simp
      | cons x r ih =>
        rw [List.nodup_cons] at hd
        by_cases e : x = n
        · subst e
          have e2 : (x :: r).filter (fun y => decide (y ≠ x)) = r := by
            rw [List.filter_cons_of_neg (by simp)]
            exact List.filter_eq_self.2 fun y hy => by
              simp only [decide_eq_true_eq]; rintro rfl; exact hd.1 hy
          rw [e2]; simp
        · rw [List.filter_cons_of_pos (by simpa using e)]
          have := ih hd.2
          simp only [List.length_cons]; omega
    omega
theorem FO.len (h : FO a0 a1 l) : l.length ≤ a0.toNat := by
  have h1 := nodup_len a0.toNat ((l.map (·.1)).map Int.toNat) (nodup_toNat h.nd (fun x hx => by
    obtain ⟨f, hf, rfl⟩ := List.mem_map.1 hx; exact (h.rng f hf).1)) (fun x hx => by
    obtain ⟨y, hy, rfl⟩ := List.mem_map.1 hx
    obtain ⟨f, hf, rfl⟩ := List.mem_map.1 hy
    have := h.rng f hf; omega)
  simpa using h1
end

/-! ### The search -/
def lfF (lf : List Int) : Nat → List R4
  | 0 => []
  | k + 1 => putF (lfF lf k) (lf.getD k 0, (k : Int), 0, 0)
def pairF (a0 : Int) (nx : List Int) (l : List R4) (x y : Nat) : R4 := (nx.getD (rS l x * a0 + rS l y).toNat 0, -1, (x : Int), (y : Int))
def rowA (a0 : Int) (nx : List Int) (l : List R4) (m : Nat) : Nat → List R4
  | 0 => l
  | x + 1 => putF (rowA a0 nx l m x) (pairF a0 nx (rowA a0 nx l m x) x m)
def rowB (a0 : Int) (nx : List Int) (l : List R4) (m : Nat) : Nat → List R4
  | 0 => l
  | y + 1 => putF (rowB a0 nx l m y) (pairF a0 nx (rowB a0 nx l m y) m y)
def genF (a0 : Int) (nx lf : List Int) : Nat → List R4
  | 0 => lfF lf lf.length
  | m + 1 => if m < (genF a0 nx lf m).length then rowB a0 nx (rowA a0 nx (genF a0 nx lf m) m m) m (m + 1) else genF a0 nx lf m
noncomputable def foundL (a0 : Int) (nx lf : List Int) : List R4 := Classical.choose (⟨genF a0 nx lf 16, rfl⟩ : ∃ l, l = genF a0 nx lf 16)
theorem foundL_eq (a0 : Int) (nx lf : List Int) : foundL a0 nx lf = genF a0 nx lf 16 := Classical.choose_spec (⟨genF a0 nx lf 16, rfl⟩ : ∃ l, l = genF a0 nx lf 16)

structure TV (a0 a1 : Int) (lf nx : List Int) : Prop where
  s : 1 ≤ a0 ∧ a0 ≤ 16
  l : 1 ≤ a1 ∧ a1 ≤ 4
  ll : (lf.length : Int) = a1
  nl : (nx.length : Int) = a0 * a0
  li : allIn lf 0 (a0 - 1) = true
  ni : allIn nx 0 (a0 - 1) = true
section
variable {a0 a1 : Int} {lf nx : List Int} {l : List R4} {m x k : Nat}
theorem TV.join (t : TV a0 a1 lf nx) {a b : Int} (ha : 0 ≤ a ∧ a ≤ a0 - 1) (hb : 0 ≤ b ∧ b ≤ a0 - 1) : 0 ≤ nx.getD (a * a0 + b).toNat 0 ∧ nx.getD (a * a0 + b).toNat 0 ≤ a0 - 1 := by
  have hix := sq_idx (q := a) (r := b) t.s (by omega) (by omega) t.nl
  exact allIn_get t.ni (by omega)
theorem lfF_ok (t : TV a0 a1 lf nx) : ∀ k : Nat, k ≤ lf.length → FO a0 a1 (lfF lf k)
  | 0, _ => FO.nil _ _
  | k + 1, h => (lfF_ok t k (by omega)).put (allIn_get t.li (by omega)) (.inl (by have := t.ll; simp only; omega))
theorem rowA_ok (t : TV a0 a1 lf nx) (h : FO a0 a1 l) (hm : m < l.length) : ∀ x : Nat, x ≤ m → FO a0 a1 (rowA a0 nx l m x) ∧ l.length ≤ (rowA a0 nx l m x).length
  | 0, _ => ⟨h, Nat.le_refl _⟩
  | x + 1, hx => by
    obtain ⟨h1, h2⟩ := rowA_ok t h hm x (by omega)
    refine ⟨h1.put (t.join (h1.st (by omega)) (h1.st (by omega))) (.inr ⟨rfl, ?_, ?_⟩), Nat.le_trans h2 (putF_le _ _)⟩ <;> (simp only [pairF]; omega)
theorem rowB_ok (t : TV a0 a1 lf nx) (h : FO a0 a1 l) (hm : m < l.length) : ∀ y : Nat, y ≤ m + 1 → FO a0 a1 (rowB a0 nx l m y) ∧ l.length ≤ (rowB a0 nx l m y).length
  | 0, _ => ⟨h, Nat.le_refl _⟩
  | y + 1, hy => by
    obtain ⟨h1, h2⟩ := rowB_ok t h hm y (by omega)
    refine ⟨h1.put (t.join (h1.st (by omega)) (h1.st (by omega))) (.inr ⟨rfl, ?_, ?_⟩), Nat.le_trans h2 (putF_le _ _)⟩ <;> (simp only [pairF]; omega)
theorem genF_ok (t : TV a0 a1 lf nx) : ∀ m : Nat, FO a0 a1 (genF a0 nx lf m)
  | 0 => lfF_ok t _ (Nat.le_refl _)
  | m + 1 => by
    rw [genF]
    split
    · rename_i h
      obtain ⟨h1, h2⟩ := rowA_ok t (genF_ok t m) h m (Nat.le_refl _)
      exact (rowB_ok t h1 (by omega) _ (Nat.le_refl _)).1
    · exact genF_ok t m
theorem genF_stay (h : (genF a0 nx lf k).length ≤ k) : ∀ j : Nat, genF a0 nx lf (k + j) = genF a0 nx lf k
  | 0 => rfl
  | j + 1 => by
    have := genF_stay h j
    rw [← Nat.add_assoc, genF, this, if_neg (by omega)]
theorem genF_done (t : TV a0 a1 lf nx) (h : (genF a0 nx lf k).length ≤ k) : genF a0 nx lf k = foundL a0 nx lf := by
  by_cases e : k ≤ 16
  · obtain ⟨j, hj⟩ : ∃ j, 16 = k + j := ⟨16 - k, by omega⟩
    rw [foundL_eq, hj, genF_stay h]
  · obtain ⟨j, hj⟩ : ∃ j, k = 16 + j := ⟨k - 16, by omega⟩
    have := (genF_ok t 16).len
    have h2 := t.s
    rw [foundL_eq, hj]; exact genF_stay (by omega) j
theorem found_ok (t : TV a0 a1 lf nx) : FO a0 a1 (foundL a0 nx lf) := by rw [foundL_eq]; exact genF_ok t 16
end

/-! ### The trees -/
def trN (ts : List (List Int)) (f : R4) : List Int := if f.2.1 < 0 then -1 :: (ts.getD f.2.2.1.toNat [] ++ ts.getD f.2.2.2.toNat []) else [f.2.1]
def trF (l : List R4) : List (List Int) := l.foldl (fun ts f => ts ++ [trN ts f]) []
def ctF (l : List R4) : List (List Int) := l.foldl (fun ts f => ts ++ [(trN ts f).take 24]) []
section
variable {a0 a1 : Int} {l : List R4} {f : R4}
theorem trF_put (l : List R4) (f : R4) : trF (l ++ [f]) = trF l ++ [trN (trF l) f] := by simp [trF, List.foldl_append]
theorem ctF_put (l : List R4) (f : R4) : ctF (l ++ [f]) = ctF l ++ [(trN (ctF l) f).take 24] := by simp [ctF, List.foldl_append]
theorem take_snoc4 {k : Nat} (hk : k < l.length) : l.take (k + 1) = l.take k ++ [l.getD k (0, 0, 0, 0)] := by
  rw [List.take_add_one, List.getD_eq_getElem?_getD, List.getElem?_eq_getElem hk]; simp
theorem trF_len (l : List R4) : ∀ k : Nat, k ≤ l.length → (trF (l.take k)).length = k
  | 0, _ => by simp [trF]
  | k + 1, h => by rw [take_snoc4 (by omega), trF_put, List.length_append, trF_len l k (by omega)]; rfl
theorem trF_len2 (l : List R4) : (trF l).length = l.length := by
  have := trF_len l l.length (Nat.le_refl _)
  rwa [List.take_length] at this
theorem trN_cut (ts : List (List Int)) (f : R4) : (trN (ts.map (List.take 24)) f).take 24 = (trN ts f).take 24 := by
  have e : ∀ i : Nat, (ts.map (List.take 24)).getD i [] = (ts.getD i []).take 24 := fun i => by
    rw [List.getD_eq_getElem?_getD, List.getElem?_map, List.getD_eq_getElem?_getD]
    cases ts[i]? <;> simp
  unfold trN
  split
  · rw [e, e, List.take_succ_cons, List.take_succ_cons, List.take_append, List.take_append, List.take_take]
    congr 2
    by_cases h : (ts.getD f.2.2.1.toNat []).length ≤ 23
    · rw [List.length_take, List.take_take, Nat.min_eq_right (show (ts.getD f.2.2.1.toNat []).length ≤ 24 by omega), Nat.min_eq_left (by omega)]
    · have e1 : 23 - (ts.getD f.2.2.1.toNat []).length = 0 := by omega
      have e2 : 23 - ((ts.getD f.2.2.1.toNat []).take 24).length = 0 := by rw [List.length_take]; omega
      rw [e1, e2]; simp
  · rfl
theorem foldl_cut : ∀ (l : List R4) (ts : List (List Int)), l.foldl (fun ts f => ts ++ [(trN ts f).take 24]) (ts.map (List.take 24)) = (l.foldl (fun ts f => ts ++ [trN ts f]) ts).map (List.take 24)
  | [], ts => rfl
  | f :: r, ts => by
    rw [List.foldl_cons, List.foldl_cons, ← foldl_cut r, trN_cut, List.map_append]; rfl
theorem ct_tr (l : List R4) : ctF l = (trF l).map (List.take 24) := foldl_cut l []
theorem ctF_len (l : List R4) : (ctF l).length = l.length := by rw [ct_tr, List.length_map, trF_len2]
theorem ctF_mem {i : Nat} : ((ctF l).getD i []).length ≤ 24 := by
  rw [ct_tr, List.getD_eq_getElem?_getD, List.getElem?_map]
  cases (trF l)[i]? with
  | none => simp
  | some t => simp only [Option.map_some, Option.getD_some, List.length_take]; omega
theorem ctF_get (l : List R4) (i : Nat) : (ctF l).getD i [] = ((trF l).getD i []).take 24 := by
  rw [ct_tr, List.getD_eq_getElem?_getD, List.getElem?_map, List.getD_eq_getElem?_getD]
  cases (trF l)[i]? <;> simp
theorem trF_pre (l : List R4) {k i : Nat} (hi : i < k) (hk : k ≤ l.length) : (trF (l.take k)).getD i [] = (trF l).getD i [] := by
  have key : ∀ d : Nat, k + d ≤ l.length → (trF (l.take (k + d))).getD i [] = (trF (l.take k)).getD i [] := by
    intro d
    induction d with
    | zero => intro _; rfl
    | succ d ih =>
      intro h
      rw [← Nat.add_assoc, take_snoc4 (by omega), trF_put, List.getD_eq_getElem?_getD, List.getElem?_append_left (by rw [trF_len l _ (by omega)]; omega), ← List.getD_eq_getElem?_getD]
      exact ih (by omega)
  have h := key (l.length - k) (by omega)
  rw [show k + (l.length - k) = l.length by omega, List.take_length] at h
  exact h.symm
theorem trF_at (l : List R4) {k : Nat} (hk : k < l.length) : (trF l).getD k [] = trN (trF (l.take k)) (l.getD k (0, 0, 0, 0)) := by
  rw [← trF_pre l (Nat.lt_succ_self k) hk, take_snoc4 hk, trF_put, List.getD_eq_getElem?_getD, List.getElem?_append_right (by rw [trF_len l _ (by omega)]; exact Nat.le_refl _), trF_len l _ (by omega)]
  simp
theorem trF_bound (h : FO a0 a1 l) : ∀ (n i : Nat), i < n → i < l.length → ((trF l).getD i []).length + 1 ≤ 2 ^ (i + 1)
  | 0, _, hi, _ => absurd hi (Nat.not_lt_zero _)
  | n + 1, i, hi, hl => by
    rw [trF_at l hl]
    have hp : 2 ≤ 2 ^ (i + 1) := by rw [Nat.pow_succ]; have := Nat.one_le_two_pow (n := i); omega
    unfold trN
    split
    · rename_i hneg
      rcases h.how i hl with hh | ⟨_, h1, h2⟩
      · omega
      · have g1 := trF_bound h n (l.getD i (0, 0, 0, 0)).2.2.1.toNat (by omega) (by omega)
        have g2 := trF_bound h n (l.getD i (0, 0, 0, 0)).2.2.2.toNat (by omega) (by omega)
        rw [trF_pre l (by omega) (by omega), trF_pre l (by omega) (by omega), List.length_cons, List.length_append]
        have p1 : 2 ^ ((l.getD i (0, 0, 0, 0)).2.2.1.toNat + 1) ≤ 2 ^ i := Nat.pow_le_pow_right (by omega) (by omega)
        have p2 : 2 ^ ((l.getD i (0, 0, 0, 0)).2.2.2.toNat + 1) ≤ 2 ^ i := Nat.pow_le_pow_right (by omega) (by omega)
        rw [Nat.pow_succ]; omega
    · simp only [List.length_singleton]; omega
theorem trF_small (h : FO a0 a1 l) (h0 : a0 ≤ 16) {i : Nat} : ((trF l).getD i []).length ≤ 65535 := by
  by_cases hl : i < l.length
  · have h1 := trF_bound h (i + 1) i (Nat.lt_succ_self _) hl
    have h2 := h.len
    have h3 : 2 ^ (i + 1) ≤ 2 ^ 16 := Nat.pow_le_pow_right (by omega) (by omega)
    have h4 : (2 : Nat) ^ 16 = 65536 := by decide
    omega
  · rw [List.getD_eq_getElem?_getD, List.getElem?_eq_none (by rw [trF_len2]; omega)]; simp
end

/-! ### The first tree that is read -/
def ftK (en : List Bool) (l : List R4) : Nat := l.findIdx fun f => en.getD f.1.toNat false
def ftB (ok : Bool) (en : List Bool) (l : List R4) : Bool := ok && decide (ftK en l < l.length ∧ ((trF l).getD (ftK en l) []).length ≤ 23)
def ftT (ok : Bool) (en : List Bool) (l : List R4) : List Int := if ftB ok en l = true then (trF l).getD (ftK en l) [] else []
section
variable {en : List Bool} {l : List R4} {k : Nat} {ok : Bool}
def NoE (en : List Bool) (l : List R4) (k : Nat) : Prop := ∀ j : Nat, j < k → en.getD (rS l j).toNat false = false
theorem NoE.zero : NoE en l 0 := fun _ h => absurd h (Nat.not_lt_zero _)
theorem NoE.succ (h : NoE en l k) (h1 : en.getD (rS l k).toNat false = false) : NoE en l (k + 1) := fun j hj => by
  rcases Nat.lt_succ_iff_lt_or_eq.1 hj with h2 | rfl
  · exact h j h2
  · exact h1
theorem rS_at {i : Nat} (hi : i < l.length) : rS l i = (l[i]'hi).1 := by
  rw [rS, List.getD_eq_getElem?_getD, List.getElem?_eq_getElem hi]; rfl
theorem ftK_ge (h : NoE en l k) (hk : k ≤ l.length) : k ≤ ftK en l := by
  rcases Nat.lt_or_ge (ftK en l) k with h1 | h1
  · have h2 : l.findIdx (fun f => en.getD f.1.toNat false) < l.length := Nat.lt_of_lt_of_le h1 hk
    have h3 := List.findIdx_getElem (w := h2)
    have h4 := h _ h1
    rw [rS_at (show ftK en l < l.length from h2)] at h4
    exact absurd (h3.symm.trans h4) (by decide)
  · exact h1
theorem ftK_hit (h : NoE en l k) (hk : k < l.length) (h1 : en.getD (rS l k).toNat false = true) : ftK en l = k := by
  have h2 := ftK_ge h (by omega)
  have h3 : ftK en l ≤ k := by
    rcases Nat.lt_or_ge k (ftK en l) with h4 | h4
    · have h5 := List.not_of_lt_findIdx (p := fun f : R4 => en.getD f.1.toNat false) (xs := l) h4
      rw [rS_at hk] at h1
      exact absurd h1 (by simpa using h5)
    · exact h4
  omega
theorem ft_none (h : NoE en l k) (hk : l.length ≤ k) : ftB ok en l = false ∧ ftT ok en l = [] := by
  have h1 := ftK_ge (k := l.length) (fun j hj => h j (by omega)) (Nat.le_refl _)
  have h2 : ftB ok en l = false := by rw [ftB, decide_eq_false (by omega), Bool.and_false]
  exact ⟨h2, by rw [ftT, h2]; rfl⟩
theorem ft_long (h : NoE en l k) (hk : k < l.length) (h1 : en.getD (rS l k).toNat false = true) (h2 : ¬ ((trF l).getD k []).length ≤ 23) : ftB ok en l = false ∧ ftT ok en l = [] := by
  have h3 := ftK_hit h hk h1
  have h4 : ftB ok en l = false := by rw [ftB, h3, decide_eq_false (fun h9 => h2 h9.2), Bool.and_false]
  exact ⟨h4, by rw [ftT, h4]; rfl⟩
theorem ft_yes (h : NoE en l k) (hk : k < l.length) (h1 : en.getD (rS l k).toNat false = true) (h2 : ((trF l).getD k []).length ≤ 23) : ftB true en l = true ∧ ftT true en l = (trF l).getD k [] := by
  have h3 := ftK_hit h hk h1
  have h4 : ftB true en l = true := by rw [ftB, h3, decide_eq_true ⟨hk, h2⟩]; rfl
  exact ⟨h4, by rw [ftT, h4, h3]; rfl⟩
theorem ft_no : ftB false en l = false ∧ ftT false en l = [] := ⟨rfl, rfl⟩
end

/-! ### Where a state stands, and lists without repeats -/
def ixS (l : List R4) (s : Int) : Int := if hasS l s = true then ((l.findIdx fun g => decide (g.1 = s) : Nat) : Int) else -1
def putI (xs : List Int) (x : Int) : List Int := if x ∈ xs then xs else xs ++ [x]
def ixI (xs : List Int) (x : Int) : Int := ((xs.findIdx fun y => decide (y = x) : Nat) : Int)
section
variable {l : List R4} {s x : Int} {k : Nat} {xs : List Int} {f : R4}
theorem hasS_at (hk : k < l.length) (h : rS l k = s) : hasS l s = true := by
  rw [hasS_mem, List.mem_map]; exact ⟨_, getD4_mem hk, h⟩
theorem hasS_none (h : ∀ j : Nat, j < l.length → rS l j ≠ s) : hasS l s = false := by
  cases hh : hasS l s with
  | false => rfl
  | true =>
    obtain ⟨f, hf, e⟩ := List.mem_map.1 (hasS_mem.1 hh)
    obtain ⟨j, hj, e2⟩ := List.getElem_of_mem hf
    exact absurd (by rw [rS_at hj, e2]; exact e) (h j hj)
theorem ixS_no (h : ∀ j : Nat, j < k → rS l j ≠ s) (hk : l.length ≤ k) : ixS l s = -1 := by
  rw [ixS, if_neg (by rw [hasS_none (fun j hj => h j (by omega))]; decide)]
theorem ixS_hit (h : ∀ j : Nat, j < k → rS l j ≠ s) (hk : k < l.length) (e : rS l k = s) : ixS l s = k := by
  rw [ixS, if_pos (hasS_at hk e)]
  congr 1
  rw [List.findIdx_eq hk]
  refine ⟨decide_eq_true (by rw [← rS_at hk]; exact e), fun j hj => decide_eq_false ?_⟩
  rw [← rS_at (show j < l.length by omega)]; exact h j hj
theorem ixS_pos : decide (0 ≤ ixS l s) = hasS l s := by
  unfold ixS
  split
  · rename_i h; rw [h]; simp
  · rename_i h; rw [Bool.eq_false_iff.2 h]; rfl
theorem putI_has (h : x ∈ xs) : putI xs x = xs := by rw [putI, if_pos h]
theorem putI_new (h : x ∉ xs) : putI xs x = xs ++ [x] := by rw [putI, if_neg h]
theorem putI_put (l : List R4) (f : R4) : putI (l.map (·.1)) f.1 = (putF l f).map (·.1) := by
  cases h : hasS l f.1 with
  | true => rw [putF_has h, putI_has (hasS_mem.1 h)]
  | false => rw [putF_new h, putI_new (hasS_no h), List.map_append]; rfl
theorem putI_len : (putI xs x).length ≤ xs.length + 1 ∧ xs.length ≤ (putI xs x).length := by
  unfold putI; split <;> simp
theorem putI_gt : (xs.length < (putI xs x).length) ↔ x ∉ xs := by
  unfold putI; split <;> rename_i h <;> simp [h]
theorem get_mem {j : Nat} (hj : j < xs.length) : xs.getD j 0 ∈ xs := by
  rw [List.getD_eq_getElem?_getD, List.getElem?_eq_getElem hj]; exact List.getElem_mem hj
theorem no_mem (h : ∀ j : Nat, j < k → xs.getD j 0 ≠ x) (hk : xs.length ≤ k) : x ∉ xs := fun hm => by
  obtain ⟨j, hj, e⟩ := List.getElem_of_mem hm
  exact h j (by omega) (by rw [List.getD_eq_getElem?_getD, List.getElem?_eq_getElem hj]; exact e)
theorem ixI_no (h : ∀ j : Nat, j < k → xs.getD j 0 ≠ x) (hk : xs.length ≤ k) : ixI xs x = xs.length := by
  have h1 := no_mem h hk
  rw [ixI, List.findIdx_eq_length.2 (fun y hy => decide_eq_false (by rintro rfl; exact h1 hy))]
theorem ixI_hit (h : ∀ j : Nat, j < k → xs.getD j 0 ≠ x) (hk : k < xs.length) (e : xs.getD k 0 = x) : ixI xs x = k := by
  have hg : ∀ j (hj : j < xs.length), xs.getD j 0 = xs[j] := fun j hj => by rw [List.getD_eq_getElem?_getD, List.getElem?_eq_getElem hj]; rfl
  rw [ixI]
  congr 1
  rw [List.findIdx_eq hk]
  refine ⟨decide_eq_true (by rw [← hg k hk]; exact e), fun j hj => decide_eq_false ?_⟩
  rw [← hg j (by omega)]; exact h j hj
theorem ixI_rng : 0 ≤ ixI xs x ∧ ixI xs x ≤ xs.length := ⟨Int.natCast_nonneg _, Int.ofNat_le.2 List.findIdx_le_length⟩
theorem map1_get (l : List R4) (j : Nat) : (l.map (·.1)).getD j 0 = rS l j := by
  rw [rS, List.getD_eq_getElem?_getD, List.getElem?_map, List.getD_eq_getElem?_getD]
  cases l[j]? <;> rfl
theorem ct_new (h : f.1 ∉ l.map (·.1)) : ctF (putF l f) = ctF l ++ [(trN (ctF l) f).take 24] := by
  rw [putF_new (Bool.eq_false_iff.2 (fun h1 => h (hasS_mem.1 h1))), ctF_put]
theorem ct_old (h : ¬ f.1 ∉ l.map (·.1)) : ctF (putF l f) = ctF l := by
  rw [putF_has (hasS_mem.2 (Classical.not_not.1 h))]
end

/-! ### The same search, over all pairs -/
def spI (a0 : Int) (nx : List Int) (l : List R4) (n i : Nat) : List R4 := if i ≤ n then rowA a0 nx l n i else rowB a0 nx (rowA a0 nx l n n) n (n + 1)
def spK (a0 : Int) (nx : List Int) (l : List R4) (n i k : Nat) : List R4 := if i < n then (if k ≤ n then rowA a0 nx l n i else rowA a0 nx l n (i + 1)) else rowB a0 nx (rowA a0 nx l n n) n k
section
variable {a0 a1 : Int} {lf nx : List Int} {l : List R4} {n i k : Nat}
theorem spI_zero : spI a0 nx l n 0 = l := by rw [spI, if_pos (Nat.zero_le _)]; rfl
theorem spI_end (h : n < i) (h2 : i ≤ n + 1) : spI a0 nx l n i = rowB a0 nx (rowA a0 nx l n n) n (n + 1) := by rw [spI, if_neg (by omega)]
theorem spK_zero (h : i ≤ n) : spK a0 nx l n i 0 = spI a0 nx l n i := by
  unfold spK spI
  rw [if_pos h]
  split
  · rw [if_pos (Nat.zero_le _)]
  · obtain rfl : i = n := by omega
    rfl
theorem spK_end (h : i ≤ n) (hk : n < k) (hk2 : k ≤ n + 1) : spK a0 nx l n i k = spI a0 nx l n (i + 1) := by
  unfold spK spI
  split
  · rw [if_neg (by omega), if_pos (by omega)]
  · obtain rfl : i = n := by omega
    obtain rfl : k = i + 1 := by omega
    rw [if_neg (by omega)]
theorem spK_skip (h : i < n) (h2 : k < n) : spK a0 nx l n i (k + 1) = spK a0 nx l n i k := by
  unfold spK; rw [if_pos h, if_pos h, if_pos (show k + 1 ≤ n by omega), if_pos (show k ≤ n by omega)]
theorem spK_step (h : ¬ (i < n ∧ k < n)) (hi : i ≤ n) (hk : k ≤ n) : spK a0 nx l n i (k + 1) = putF (spK a0 nx l n i k) (pairF a0 nx (spK a0 nx l n i k) i k) := by
  unfold spK
  by_cases e : i < n
  · obtain rfl : k = n := by omega
    rw [if_pos e, if_neg (by omega), if_pos e, if_pos (Nat.le_refl _)]; rfl
  · obtain rfl : i = n := by omega
    rw [if_neg e, if_neg e]; rfl
theorem spK_ok (t : TV a0 a1 lf nx) (h : FO a0 a1 l) (hn : n < l.length) (hi : i ≤ n) (hk : k ≤ n + 1) : FO a0 a1 (spK a0 nx l n i k) ∧ l.length ≤ (spK a0 nx l n i k).length := by
  unfold spK
  split
  · split
    · exact rowA_ok t h hn i hi
    · exact rowA_ok t h hn (i + 1) (by omega)
  · obtain ⟨h1, h2⟩ := rowA_ok t h hn n (Nat.le_refl _)
    obtain ⟨h3, h4⟩ := rowB_ok t h1 (by omega) k hk
    exact ⟨h3, by omega⟩
theorem genF_succ (h : n < (genF a0 nx lf n).length) : genF a0 nx lf (n + 1) = rowB a0 nx (rowA a0 nx (genF a0 nx lf n) n n) n (n + 1) := by rw [genF, if_pos h]
theorem genF_le (t : TV a0 a1 lf nx) (h : n < (genF a0 nx lf n).length) : n + 1 ≤ (genF a0 nx lf (n + 1)).length := by
  rw [genF_succ h]
  obtain ⟨h1, h2⟩ := rowA_ok t (genF_ok t n) h n (Nat.le_refl _)
  obtain ⟨h3, h4⟩ := rowB_ok t h1 (by omega) (n + 1) (Nat.le_refl _)
  omega
end

/-! ### Steps of the trees' list -/
section
variable {l : List R4} {k : Nat}
theorem tr_put (hk : k < l.length) : trF (l.take (k + 1)) = trF (l.take k) ++ [(trF l).getD k []] := by rw [trF_at l hk, take_snoc4 hk, trF_put]
theorem tr_neg (hk : k < l.length) (h : (l.getD k (0, 0, 0, 0)).2.1 = -1) : (trF l).getD k [] = [[(l.getD k (0, 0, 0, 0)).2.1], (trF (l.take k)).getD (l.getD k (0, 0, 0, 0)).2.2.1.toNat [], (trF (l.take k)).getD (l.getD k (0, 0, 0, 0)).2.2.2.toNat []].flatten := by
  rw [trF_at l hk, trN, if_pos (by omega), h]; simp
theorem tr_pos (hk : k < l.length) (h : ¬ (l.getD k (0, 0, 0, 0)).2.1 < 0) : (trF l).getD k [] = [(l.getD k (0, 0, 0, 0)).2.1] := by
  rw [trF_at l hk, trN, if_neg h]
theorem how_neg {a0 a1 : Int} (hF : FO a0 a1 l) (hk : k < l.length) (h : (l.getD k (0, 0, 0, 0)).2.1 < 0) : (l.getD k (0, 0, 0, 0)).2.1 = -1 ∧ (0 ≤ (l.getD k (0, 0, 0, 0)).2.2.1 ∧ (l.getD k (0, 0, 0, 0)).2.2.1 < k) ∧ (0 ≤ (l.getD k (0, 0, 0, 0)).2.2.2 ∧ (l.getD k (0, 0, 0, 0)).2.2.2 < k) := by
  rcases hF.how k hk with h1 | h1
  · omega
  · exact h1
theorem trF_smallk {a0 a1 : Int} (hF : FO a0 a1 l) (h0 : a0 ≤ 16) {i : Nat} (hi : i < k) (hk : k < l.length) : ((trF (l.take k)).getD i []).length ≤ 32767 := by
  rw [trF_pre l hi (by omega)]
  have h1 := trF_bound hF (i + 1) i (Nat.lt_succ_self _) (by omega)
  have h2 := hF.len
  have h3 : 2 ^ (i + 1) ≤ 2 ^ 15 := Nat.pow_le_pow_right (by omega) (by omega)
  have h4 : (2 : Nat) ^ 15 = 32768 := by decide
  omega
end

theorem map1_len (l : List R4) : (l.map (·.1)).length = l.length := List.length_map _
theorem ct_pair {a0 : Int} {nx : List Int} {l : List R4} {i k : Nat} (h : (pairF a0 nx l i k).1 ∉ l.map (·.1)) : ctF (putF l (pairF a0 nx l i k)) = ctF l ++ [(([-1] ++ (ctF l).getD i []) ++ (ctF l).getD k []).take 24] := by
  rw [ct_new h, trN, if_pos (show (pairF a0 nx l i k).2.1 < 0 by simp [pairF])]; rfl
theorem ct_pair1 {a0 : Int} {nx : List Int} {l : List R4} {i k : Nat} (h : (pairF a0 nx l i k).1 ∉ l.map (·.1)) (hl : (([-1] ++ (ctF l).getD i []) ++ (ctF l).getD k []).length ≤ 24) : ctF (putF l (pairF a0 nx l i k)) = ctF l ++ [([-1] ++ (ctF l).getD i []) ++ (ctF l).getD k []] := by
  rw [ct_pair h, List.take_of_length_le hl]
theorem ftT_len (ok : Bool) (en : List Bool) (l : List R4) : (ftT ok en l).length ≤ 23 := by
  unfold ftT
  split
  · rename_i h
    rw [ftB, Bool.and_eq_true, decide_eq_true_eq] at h
    exact h.2.2
  · simp
end Go.WX
