/- Plain laws on how many words a plain machine reads; no program. No condition. -/
import Derived.Test.YthemmoceomdccaaPlPe
import Derived.Test.YthemmoceomdccaaPlIt
namespace Go.WX
open Go

/-! ### What the loops do -/
def bmpW (r : List Int) (c : Nat) (v : Int) : List Int := r.set c (IntKind.i64.wrap (r.getD c 0 + v))
def rowW (l : Int) (nx cs : List Int) (i k : Nat) (r : List Int) : List Int := itN (fun k r => bmpW r (nx.getD ((i : Int) * l + (k : Int)).toNat 0).toNat (cs.getD i 0)) k r
def pasW (l : Int) (nx cs : List Int) (i : Nat) (r : List Int) : List Int := itN (fun i r => rowW l nx cs i l.toNat r) i r
def couW (s : Nat) (l : Int) (nx : List Int) (t : Nat) : List Int := itN (fun _ cs => pasW l nx cs s (List.replicate s 0)) t ((List.replicate s 0).set 0 1)
def sumW (en : List Bool) (cs : List Int) (k : Nat) : Int := itN (fun k a => if en.getD k false = true then IntKind.i64.wrap (a + cs.getD k 0) else a) k 0
theorem bmpW_len (r : List Int) (c : Nat) (v : Int) : (bmpW r c v).length = r.length := by simp [bmpW]
theorem rowW_len (l : Int) (nx cs : List Int) (i k : Nat) (r : List Int) : (rowW l nx cs i k r).length = r.length := itN_len (fun _ _ => bmpW_len _ _ _) k r
theorem pasW_len (l : Int) (nx cs : List Int) (i : Nat) (r : List Int) : (pasW l nx cs i r).length = r.length := itN_len (fun _ _ => rowW_len _ _ _ _ _ _) i r
theorem couW_len (s : Nat) (l : Int) (nx : List Int) : ∀ t, (couW s l nx t).length = s
  | 0 => by simp [couW, itN]
  | t + 1 => by show (pasW l nx (couW s l nx t) s (List.replicate s 0)).length = s; rw [pasW_len, List.length_replicate]

/-! ### Alike but for overflow -/
def cgw (x y : Int) : Prop := ∃ k : Int, x = y + k * 18446744073709551616
theorem cgw.refl (x : Int) : cgw x x := ⟨0, by omega⟩
theorem cgw.trans {x y z : Int} (h : cgw x y) (g : cgw y z) : cgw x z := by
  obtain ⟨a, rfl⟩ := h; obtain ⟨b, rfl⟩ := g; exact ⟨a + b, by omega⟩
theorem cgw.add {x y u v : Int} (h : cgw x y) (g : cgw u v) : cgw (x + u) (y + v) := by
  obtain ⟨a, rfl⟩ := h; obtain ⟨b, rfl⟩ := g; exact ⟨a + b, by omega⟩
theorem cgw.mulL {x y : Int} (f : Int) (h : cgw x y) : cgw (f * x) (f * y) := by
  obtain ⟨a, rfl⟩ := h
  exact ⟨f * a, by rw [Int.mul_add, Int.mul_assoc]⟩
theorem wrW (x : Int) : cgw (IntKind.i64.wrap x) x ∧ (-9223372036854775808 ≤ IntKind.i64.wrap x ∧ IntKind.i64.wrap x ≤ 9223372036854775807) := by
  have h : IntKind.i64.wrap x = (x + 9223372036854775808) % 18446744073709551616 - 9223372036854775808 := by
    simp [IntKind.wrap, IntKind.signed, IntKind.bits]
    split <;> omega
  rw [h]
  exact ⟨⟨-((x + 9223372036854775808) / 18446744073709551616), by omega⟩, by omega, by omega⟩
theorem cgw_eq {x y : Int} (h : cgw x y) (hx : -9223372036854775808 ≤ x ∧ x ≤ 9223372036854775807) (hy : 0 ≤ y ∧ y ≤ 1000000000) : x = y := by
  obtain ⟨k, rfl⟩ := h; omega
theorem sumN_cg {f g : Nat → Int} : ∀ n, (∀ k, k < n → cgw (f k) (g k)) → cgw (sumN f n) (sumN g n)
  | 0, _ => cgw.refl _
  | n + 1, h => by rw [sumN_succ, sumN_succ]; exact (sumN_cg n fun k hk => h k (by omega)).add (h n (by omega))
theorem sumN_upd {f g : Nat → Int} {d : Nat} : ∀ n, (∀ k, k < n → k ≠ d → f k = g k) → d < n → sumN f n = sumN g n + (f d - g d)
  | 0, _, h => by omega
  | n + 1, h, hd => by
    rw [sumN_succ, sumN_succ]
    by_cases e : d = n
    · subst e
      rw [sumN_congr (g := g) fun k hk => h k (by omega) (by omega)]; omega
    · rw [sumN_upd n (fun k hk => h k (by omega)) (by omega), h n (by omega) (fun e2 => e e2.symm)]; omega
theorem sumN_zero : ∀ n, sumN (fun _ => 0) n = 0
  | 0 => rfl
  | n + 1 => by rw [sumN_succ, sumN_zero n]; rfl
theorem sumN_mul {f : Nat → Int} (a : Int) : ∀ n, sumN (fun k => f k * a) n = a * sumN f n
  | 0 => by show (0 : Int) = a * 0; omega
  | n + 1 => by rw [sumN_succ, sumN_succ, sumN_mul a n, Int.mul_add, Int.mul_comm a (f n)]

/-! ### Weighted counts -/
def dotW (f : Nat → Int) (cs : List Int) (n : Nat) : Int := sumN (fun q => f q * cs.getD q 0) n
/-- The weight of the letters behind. -/
def thrW (l : Int) (nx : List Int) (f : Nat → Int) (a : Nat) : Int := sumN (fun k => f (nx.getD ((a : Int) * l + (k : Int)).toNat 0).toNat) l.toNat
section
variable {s : Nat} {l : Int} {nx cs r : List Int} {en : List Bool} {f : Nat → Int}
theorem dotW_bmp {c : Nat} {v : Int} (hl : r.length = s) (hc : c < s) : cgw (dotW f (bmpW r c v) s) (dotW f r s + f c * v) := by
  have e : dotW f (bmpW r c v) s = dotW f r s + (f c * IntKind.i64.wrap (r.getD c 0 + v) - f c * r.getD c 0) := by
    unfold dotW
    rw [sumN_upd (d := c) (g := fun q => f q * r.getD q 0) s (fun k hk hne => by
      unfold bmpW; rw [List.getD_eq_getElem?_getD, List.getElem?_set_ne (Ne.symm hne), ← List.getD_eq_getElem?_getD]) hc]
    unfold bmpW
    rw [List.getD_eq_getElem?_getD, List.getElem?_set_self (by omega)]; rfl
  rw [e]
  obtain ⟨k, hk⟩ := ((wrW (r.getD c 0 + v)).1).mulL (f c)
  rw [hk, Int.mul_add]
  exact ⟨k, by omega⟩
theorem dotW_row (hl : r.length = s) {i : Nat} : ∀ k : Nat, (∀ q : Nat, q < k → (nx.getD ((i : Int) * l + (q : Int)).toNat 0).toNat < s) →
    cgw (dotW f (rowW l nx cs i k r) s) (dotW f r s + sumN (fun q => f (nx.getD ((i : Int) * l + (q : Int)).toNat 0).toNat * cs.getD i 0) k)
  | 0, _ => by
    show cgw (dotW f r s) (dotW f r s + 0)
    rw [Int.add_zero]; exact cgw.refl _
  | k + 1, h => by
    have ih := dotW_row hl (i := i) k fun q hq => h q (by omega)
    have h1 := dotW_bmp (f := f) (r := rowW l nx cs i k r) (c := (nx.getD ((i : Int) * l + (k : Int)).toNat 0).toNat) (v := cs.getD i 0) (by rw [rowW_len]; exact hl) (h k (by omega))
    refine cgw.trans h1 ?_
    rw [sumN_succ]
    have := ih.add (cgw.refl (f (nx.getD ((i : Int) * l + (k : Int)).toNat 0).toNat * cs.getD i 0))
    rwa [Int.add_assoc] at this
theorem dotW_pas (hl : r.length = s) : ∀ i : Nat, (∀ a q : Nat, a < i → q < l.toNat → (nx.getD ((a : Int) * l + (q : Int)).toNat 0).toNat < s) →
    cgw (dotW f (pasW l nx cs i r) s) (dotW f r s + sumN (fun a => thrW l nx f a * cs.getD a 0) i)
  | 0, _ => by
    show cgw (dotW f r s) (dotW f r s + 0)
    rw [Int.add_zero]; exact cgw.refl _
  | i + 1, h => by
    have ih := dotW_pas hl i fun a q ha hq => h a q (by omega) hq
    have h1 := dotW_row (f := f) (r := pasW l nx cs i r) (cs := cs) (nx := nx) (l := l) (by rw [pasW_len]; exact hl) (i := i) l.toNat fun q hq => h i q (by omega) hq
    refine cgw.trans h1 ?_
    rw [sumN_succ, sumN_mul, Int.mul_comm (cs.getD i 0)]
    have := ih.add (cgw.refl (thrW l nx f i * cs.getD i 0))
    rwa [Int.add_assoc] at this
theorem dotW_zero : dotW f (List.replicate s 0) s = 0 := by
  unfold dotW
  refine (sumN_congr fun k hk => ?_).trans (sumN_zero s)
  rw [List.getD_eq_getElem?_getD, List.getElem?_replicate, if_pos hk]
  show f k * 0 = 0
  omega
theorem couW_dot (h : ∀ a q : Nat, a < s → q < l.toNat → (nx.getD ((a : Int) * l + (q : Int)).toNat 0).toNat < s) (hs : 1 ≤ s) : ∀ (t : Nat) (f : Nat → Int), cgw (dotW f (couW s l nx t) s) (itN (fun _ => thrW l nx) t f 0)
  | 0, f => by
    show cgw (dotW f ((List.replicate s 0).set 0 1) s) (f 0)
    have : dotW f ((List.replicate s 0).set 0 1) s = f 0 := by
      have e := sumN_upd (d := 0) (f := fun q => f q * ((List.replicate s (0 : Int)).set 0 1).getD q 0) (g := fun q => f q * (List.replicate s (0 : Int)).getD q 0) s (fun k _ hne => by
        rw [List.getD_eq_getElem?_getD, List.getElem?_set_ne (Ne.symm hne), ← List.getD_eq_getElem?_getD]) (by omega)
      unfold dotW
      rw [e]
      have z := dotW_zero (s := s) (f := f)
      unfold dotW at z
      rw [z]
      rw [List.getD_eq_getElem?_getD, List.getElem?_set_self (by simp; omega), List.getD_eq_getElem?_getD, List.getElem?_replicate, if_pos (by omega)]
      show 0 + (f 0 * 1 - f 0 * 0) = f 0
      omega
    rw [this]; exact cgw.refl _
  | t + 1, f => by
    show cgw (dotW f (pasW l nx (couW s l nx t) s (List.replicate s 0)) s) _
    have h1 := dotW_pas (f := f) (r := List.replicate s 0) (cs := couW s l nx t) (nx := nx) (l := l) (s := s) (by simp) s (fun a q ha hq => h a q ha hq)
    rw [dotW_zero, Int.zero_add] at h1
    refine h1.trans ?_
    have h2 := couW_dot h hs t (thrW l nx f)
    have e : ∀ (t : Nat) (g : Nat → Int), itN (fun _ => thrW l nx) t (thrW l nx g) = itN (fun _ => thrW l nx) (t + 1) g := fun t => by
      induction t with
      | zero => intro g; rfl
      | succ t ih => intro g; show thrW l nx (itN (fun _ => thrW l nx) t (thrW l nx g)) = _; rw [ih]; rfl
    rw [e] at h2
    exact h2
theorem sumW_dot : ∀ k, cgw (sumW en cs k) (dotW (fun q => if en.getD q false = true then 1 else 0) cs k) ∧ (-9223372036854775808 ≤ sumW en cs k ∧ sumW en cs k ≤ 9223372036854775807)
  | 0 => ⟨cgw.refl _, by show (-9223372036854775808 : Int) ≤ 0 ∧ (0 : Int) ≤ 9223372036854775807; decide⟩
  | k + 1 => by
    have ih := sumW_dot k
    have e : sumW en cs (k + 1) = if en.getD k false = true then IntKind.i64.wrap (sumW en cs k + cs.getD k 0) else sumW en cs k := rfl
    have e2 : dotW (fun q => if en.getD q false = true then 1 else 0) cs (k + 1) = dotW (fun q => if en.getD q false = true then 1 else 0) cs k + (if en.getD k false = true then 1 else 0) * cs.getD k 0 := rfl
    rw [e, e2]
    by_cases h : en.getD k false = true
    · rw [if_pos h, if_pos h, Int.one_mul]
      exact ⟨((wrW _).1).trans (ih.1.add (cgw.refl _)), (wrW _).2⟩
    · rw [if_neg h, if_neg h, Int.zero_mul, Int.add_zero]; exact ih
end

/-! ### Words one by one -/
section
variable {s l : Int} {nx : List Int} {en : List Bool} {f : Nat → Int}
def lstW (f : Nat → Int) (l : Int) (nx : List Int) (ws : List (List Int)) : Int := (ws.map fun w => f (runL l nx w 0).toNat).sum
theorem range_sum (g : Nat → Int) : ∀ n, ((List.range n).map g).sum = sumN g n
  | 0 => rfl
  | n + 1 => by rw [List.range_succ, List.map_append, List.sum_append, range_sum g n, sumN_succ]; simp
theorem lstW_grow (h : plainB s l nx en = true) : ∀ ws : List (List Int), (∀ w ∈ ws, ∀ x ∈ w, 0 ≤ x ∧ x < l) → lstW f l nx (growW l ws) = lstW (thrW l nx f) l nx ws
  | [], _ => rfl
  | w :: ws, hw => by
    have hs := (of_decide_eq_true h).1
    have ih := lstW_grow h ws fun u hu => hw u (List.mem_cons_of_mem _ hu)
    have hr := runL_rng h w 0 (hw w List.mem_cons_self) (by omega)
    have e : growW l (w :: ws) = growOne l w ++ growW l ws := rfl
    rw [e]
    unfold lstW at *
    rw [List.map_append, List.sum_append, ih, List.map_cons, List.sum_cons]
    congr 1
    unfold growOne thrW
    rw [List.map_map, ← range_sum]
    congr 1
    refine List.map_congr_left fun k _ => ?_
    simp only [Function.comp]
    rw [runL_app, Int.toNat_of_nonneg hr.1]
theorem words_in (L : Int) : ∀ n, ∀ w ∈ wordsL L n, ∀ x ∈ w, 0 ≤ x ∧ x < L
  | 0, w, h, x, hx => by
    simp only [wordsL, List.mem_singleton] at h
    subst h; exact absurd hx List.not_mem_nil
  | n + 1, w, h, x, hx => by
    unfold wordsL growW at h
    obtain ⟨u, hu, hw⟩ := List.mem_flatMap.1 h
    unfold growOne at hw
    obtain ⟨q, hq, rfl⟩ := List.mem_map.1 hw
    rcases List.mem_append.1 hx with hx | hx
    · exact words_in L n u hu x hx
    · rw [List.mem_singleton] at hx
      have := List.mem_range.1 hq
      omega
theorem lstW_words (h : plainB s l nx en = true) : ∀ (t : Nat) (f : Nat → Int), lstW f l nx (wordsL l t) = itN (fun _ => thrW l nx) t f 0
  | 0, f => by
    show (([[]] : List (List Int)).map fun w => f (runL l nx w 0).toNat).sum = f 0
    simp [runL]
  | t + 1, f => by
    have e : wordsL l (t + 1) = growW l (wordsL l t) := rfl
    rw [e, lstW_grow h _ (words_in l t), lstW_words h t]
    have e2 : ∀ (t : Nat) (g : Nat → Int), itN (fun _ => thrW l nx) t (thrW l nx g) = itN (fun _ => thrW l nx) (t + 1) g := fun t => by
      induction t with
      | zero => intro g; rfl
      | succ t ih => intro g; show thrW l nx (itN (fun _ => thrW l nx) t (thrW l nx g)) = _; rw [ih]; rfl
    rw [e2]
theorem sumN_list {α : Type} (g : α → Int) (d : α) : ∀ (xs : List α) (n : Nat), n ≤ xs.length → sumN (fun k => g (xs.getD k d)) n = ((xs.take n).map g).sum
  | xs, 0, _ => rfl
  | xs, n + 1, h => by
    rw [sumN_succ, sumN_list g d xs n (by omega), take_succ (by omega) d, List.map_append, List.sum_append]; simp
open Classical in
/-- As many words are made as the machine reads. -/
theorem made_count (h : plainB s l nx en = true) {n : Nat} (hn : 1 ≤ n) (h5 : (wordsL l n).length ≤ 1024) : cntW (allG s l nx en) (wordsL l n) (wordsL l n).length = sumW en (couW s.toNat l nx n) s.toNat := by
  have hs := (of_decide_eq_true h).1
  have h1 : cntW (allG s l nx en) (wordsL l n) (wordsL l n).length = lstW (fun q => if en.getD q false = true then 1 else 0) l nx (wordsL l n) := by
    unfold cntW lstW
    rw [sumN_list (fun w => if ∃ c, DC (allG s l nx en) w 0 w.length 0 c then (1 : Int) else 0) [] _ _ (Nat.le_refl _), List.take_length]
    congr 1
    refine List.map_congr_left fun w hw => ?_
    have hl := wordsL_each n w hw
    have hi := words_in l n w hw
    have := madeG (wd := w) h (by
      unfold allIn
      rw [List.all_eq_true]
      intro x hx
      have := hi x hx
      simp only [decide_eq_true_eq]; omega) (by omega)
    simp only [this]
  have h2 := cntW_rng (allG s l nx en) (wordsL l n) (wordsL l n).length
  rw [h1, lstW_words h] at h2 ⊢
  have h3 := couW_dot (s := s.toNat) (l := l) (nx := nx) (fun a q ha hq => by have := toG h (i := a) (k := q) (by omega) (by omega); omega) (by omega) n (fun q => if en.getD q false = true then 1 else 0)
  have h4 := sumW_dot (en := en) (cs := couW s.toNat l nx n) s.toNat
  exact (cgw_eq (h4.1.trans h3) h4.2 (by omega)).symm
end
end Go.WX
