/- How many trees a machine reads, counted one by one; no program. No condition. -/
import Derived.Test.YthemmoceomdccaaPlId
import Derived.Test.YthemmoceomdccaaPlCt
namespace Go.WX
open Go

/-! ### All trees with so many leaves -/
def lfsT (L : Int) : List Tre := (List.range L.toNat).map fun x : Nat => Tre.leaf (x : Int)
def nodeT (X Y : List Tre) : List Tre := X.flatMap fun a => Y.map fun b => Tre.node a b
def rowT (T : List (List Tre)) (m : Nat) : List Tre := (List.range (m - 1)).flatMap fun l => nodeT (T.getD (l + 1) []) (T.getD (m - (l + 1)) [])
def tabT (L : Int) : Nat → List (List Tre)
  | 0 => [[], lfsT L]
  | k + 1 => tabT L k ++ [rowT (tabT L k) (k + 2)]
theorem tabT_len (L : Int) : ∀ k, (tabT L k).length = k + 2
  | 0 => rfl
  | k + 1 => by rw [tabT, List.length_append, tabT_len L k]; rfl
theorem getD_in {α : Type} {T : List (List α)} {l : Nat} {x : α} (h : x ∈ T.getD l []) : T.getD l [] ∈ T := by
  by_cases e : l < T.length
  · rw [List.getD_eq_getElem?_getD, List.getElem?_eq_getElem e]; exact List.getElem_mem e
  · rw [List.getD_eq_getElem?_getD, List.getElem?_eq_none (by omega)] at h; cases h
theorem tabT_ok (L : Int) : ∀ k, ∀ X ∈ tabT L k, ∀ t ∈ X, okTr L t
  | 0, X, hX, t, ht => by
    simp only [tabT, List.mem_cons, List.not_mem_nil, or_false] at hX
    rcases hX with rfl | rfl
    · cases ht
    · obtain ⟨x, hx, rfl⟩ := List.mem_map.1 ht
      have := List.mem_range.1 hx
      show 0 ≤ (x : Int) ∧ (x : Int) ≤ L - 1
      omega
  | k + 1, X, hX, t, ht => by
    rw [tabT] at hX
    rcases List.mem_append.1 hX with hX | hX
    · exact tabT_ok L k X hX t ht
    · rw [List.mem_singleton] at hX; subst hX
      obtain ⟨l, _, ht⟩ := List.mem_flatMap.1 ht
      obtain ⟨a, ha, ht⟩ := List.mem_flatMap.1 ht
      obtain ⟨b, hb, rfl⟩ := List.mem_map.1 ht
      exact ⟨tabT_ok L k _ (getD_in ha) a ha, tabT_ok L k _ (getD_in hb) b hb⟩
def tabN (L : Nat) : Nat → List Nat
  | 0 => [0, L]
  | k + 1 => tabN L k ++ [((List.range (k + 1)).map fun l => (tabN L k).getD (l + 1) 0 * (tabN L k).getD (k + 2 - (l + 1)) 0).sum]
theorem nodeT_len (X Y : List Tre) : (nodeT X Y).length = X.length * Y.length := by
  induction X with
  | nil => simp [nodeT]
  | cons a r ih =>
    have : nodeT (a :: r) Y = (Y.map fun b => Tre.node a b) ++ nodeT r Y := rfl
    rw [this, List.length_append, List.length_map, ih, List.length_cons, Nat.succ_mul]; omega
theorem tabN_len (L : Int) : ∀ k, (tabT L k).map List.length = tabN L.toNat k
  | 0 => by simp [tabT, tabN, lfsT]
  | k + 1 => by
    have ih := tabN_len L k
    have g : ∀ l, ((tabT L k).getD l []).length = (tabN L.toNat k).getD l 0 := fun l => by
      rw [← ih, List.getD_eq_getElem?_getD, List.getD_eq_getElem?_getD, List.getElem?_map]
      cases (tabT L k)[l]? <;> rfl
    rw [tabT, tabN, List.map_append, ih]
    congr 1
    simp only [List.map_cons, List.map_nil, rowT, List.length_flatMap]
    congr 2
    refine List.map_congr_left fun l _ => ?_
    rw [nodeT_len, g, g]
def shpN (n : Nat) : Nat := [1, 1, 2, 5, 14, 42].getD (n - 1) 0
theorem all_len {L : Int} (hL : 1 ≤ L ∧ L ≤ 3) {n : Nat} (hn : 1 ≤ n ∧ n ≤ 6) : ((tabT L (n - 1)).getD n []).length = shpN n * L.toNat ^ n := by
  have h := tabN_len L (n - 1)
  have e : ((tabT L (n - 1)).getD n []).length = (tabN L.toNat (n - 1)).getD n 0 := by
    rw [← h, List.getD_eq_getElem?_getD, List.getD_eq_getElem?_getD, List.getElem?_map]
    cases (tabT L (n - 1))[n]? <;> rfl
  rw [e]
  have key : ∀ l : Fin 4, ∀ k : Fin 7, 1 ≤ l.val → 1 ≤ k.val → (tabN l.val (k.val - 1)).getD k.val 0 = shpN k.val * l.val ^ k.val := by decide +kernel
  exact key ⟨L.toNat, by omega⟩ ⟨n, by omega⟩ (by show 1 ≤ L.toNat; omega) hn.1

/-! ### Sums -/
def sumR (f : Nat → Int) : Nat → Int
  | 0 => 0
  | n + 1 => sumR f n + f n
def sumT {α : Type} (g : α → Int) : List α → Int
  | [] => 0
  | t :: r => g t + sumT g r
section
variable {f g : Nat → Int} {n : Nat}
theorem sumR_congr (h : ∀ i, i < n → f i = g i) : sumR f n = sumR g n := by
  induction n with
  | zero => rfl
  | succ n ih => rw [sumR, sumR, ih (fun i hi => h i (by omega)), h n (Nat.lt_succ_self _)]
theorem sumR_add : ∀ n, sumR (fun i => f i + g i) n = sumR f n + sumR g n
  | 0 => rfl
  | n + 1 => by rw [sumR, sumR, sumR, sumR_add n]; omega
theorem sumR_mul (c : Int) : ∀ n, sumR (fun i => c * f i) n = c * sumR f n
  | 0 => by simp [sumR]
  | n + 1 => by rw [sumR, sumR, sumR_mul c n, Int.mul_add]
theorem sumR_zero : ∀ n, sumR (fun _ => 0) n = 0
  | 0 => rfl
  | n + 1 => by rw [sumR, sumR_zero n]; rfl
theorem sumR_ind {j : Nat} : ∀ n, sumR (fun i => if i = j then f i else 0) n = if j < n then f j else 0
  | 0 => rfl
  | n + 1 => by
    rw [sumR, sumR_ind n]
    by_cases e : n = j
    · subst e; rw [if_neg (Nat.lt_irrefl _), if_pos rfl, if_pos (Nat.lt_succ_self _)]; omega
    · rw [if_neg e]
      by_cases e2 : j < n
      · rw [if_pos e2, if_pos (by omega)]; omega
      · rw [if_neg e2, if_neg (by omega)]; omega
end
section
variable {α : Type} {f g : α → Int}
theorem sumT_app (X Y : List α) : sumT f (X ++ Y) = sumT f X + sumT f Y := by
  induction X with
  | nil => simp [sumT]
  | cons t r ih => rw [List.cons_append, sumT, sumT, ih]; omega
theorem sumT_congr {X : List α} (h : ∀ t ∈ X, f t = g t) : sumT f X = sumT g X := by
  induction X with
  | nil => rfl
  | cons t r ih => rw [sumT, sumT, h t List.mem_cons_self, ih fun u hu => h u (List.mem_cons_of_mem _ hu)]
theorem sumT_map {β : Type} {h : β → Int} {k : α → β} (X : List α) : sumT h (X.map k) = sumT (fun a => h (k a)) X := by
  induction X with
  | nil => rfl
  | cons t r ih => rw [List.map_cons, sumT, sumT, ih]
theorem sumT_flat {β : Type} {h : β → Int} {k : α → List β} (X : List α) : sumT h (X.flatMap k) = sumT (fun a => sumT h (k a)) X := by
  induction X with
  | nil => rfl
  | cons t r ih => rw [List.flatMap_cons, sumT_app, sumT, ih]
theorem sumT_range {f : Nat → Int} : ∀ n, sumT f (List.range n) = sumR f n
  | 0 => rfl
  | n + 1 => by rw [List.range_succ, sumT_app, sumR, sumT_range n]; simp [sumT]
theorem sumT_countP (p : α → Bool) (X : List α) : sumT (fun t => if p t = true then 1 else 0) X = (X.countP p : Int) := by
  induction X with
  | nil => rfl
  | cons t r ih =>
    rw [sumT, ih, List.countP_cons]
    by_cases e : p t = true
    · rw [if_pos e, if_pos e]; omega
    · rw [if_neg e, if_neg e]; omega
end

/-! ### Equal up to rounds of the clock -/
def cg (x y : Int) : Prop := ∃ k : Int, x = y + k * 18446744073709551616
theorem cg.refl (x : Int) : cg x x := ⟨0, by omega⟩
theorem cg.trans {x y z : Int} (h : cg x y) (g : cg y z) : cg x z := by
  obtain ⟨a, rfl⟩ := h; obtain ⟨b, rfl⟩ := g; exact ⟨a + b, by rw [Int.add_mul]; omega⟩
theorem cg.add {x y u v : Int} (h : cg x y) (g : cg u v) : cg (x + u) (y + v) := by
  obtain ⟨a, rfl⟩ := h; obtain ⟨b, rfl⟩ := g; exact ⟨a + b, by rw [Int.add_mul]; omega⟩
theorem cg.mul {x y u v : Int} (h : cg x y) (g : cg u v) : cg (x * u) (y * v) := by
  obtain ⟨a, rfl⟩ := h; obtain ⟨b, rfl⟩ := g
  refine ⟨y * b + a * v + a * b * 18446744073709551616, ?_⟩
  rw [Int.add_mul, Int.mul_add, Int.mul_add, Int.add_mul, Int.add_mul]
  have e1 : y * (b * 18446744073709551616) = y * b * 18446744073709551616 := by rw [Int.mul_assoc]
  have e2 : a * 18446744073709551616 * v = a * v * 18446744073709551616 := by rw [Int.mul_assoc, Int.mul_assoc, Int.mul_comm v]
  have e3 : a * 18446744073709551616 * (b * 18446744073709551616) = a * b * 18446744073709551616 * 18446744073709551616 := by
    rw [Int.mul_assoc, Int.mul_assoc, Int.mul_assoc, Int.mul_left_comm 18446744073709551616 b]
  rw [e1, e2, e3]; omega
theorem wr_cg (x : Int) : cg (IntKind.i64.wrap x) x := by
  have h : IntKind.i64.wrap x = (x + 9223372036854775808) % 18446744073709551616 - 9223372036854775808 := by
    simp [IntKind.wrap, IntKind.signed, IntKind.bits]
    split <;> omega
  rw [h]
  exact ⟨-((x + 9223372036854775808) / 18446744073709551616), by have := Int.emod_add_mul_ediv (x + 9223372036854775808) 18446744073709551616; omega⟩
theorem wr_in (x : Int) : -9223372036854775808 ≤ IntKind.i64.wrap x ∧ IntKind.i64.wrap x ≤ 9223372036854775807 := by
  have h : IntKind.i64.wrap x = (x + 9223372036854775808) % 18446744073709551616 - 9223372036854775808 := by
    simp [IntKind.wrap, IntKind.signed, IntKind.bits]
    split <;> omega
  rw [h]; omega
theorem cg_eq {x y : Int} (h : cg x y) (hx : -9223372036854775808 ≤ x ∧ x ≤ 9223372036854775807) (hy : 0 ≤ y ∧ y ≤ 9223372036854775807) : x = y := by
  obtain ⟨k, rfl⟩ := h
  omega

/-! ### Rows that count -/
def Rpz (S : Nat) (r : List Int) (F : Nat → Int) : Prop := r.length = S ∧ ∀ c, c < S → cg (r.getD c 0) (F c)
section
variable {S : Nat} {r p q : List Int} {F P Q : Nat → Int} {nx lf : List Int} {a0 : Int}
theorem Rpz.congr {G : Nat → Int} (h : Rpz S r F) (e : ∀ c, c < S → F c = G c) : Rpz S r G := ⟨h.1, fun c hc => by rw [← e c hc]; exact h.2 c hc⟩
theorem Rpz.bmp {d : Nat} {v V : Int} (h : Rpz S r F) (hd : d < S) (hv : cg v V) : Rpz S (bmp r d v) (fun c => F c + if c = d then V else 0) := by
  refine ⟨by rw [bmp_len]; exact h.1, fun c hc => ?_⟩
  have hr := h.1
  show cg _ (F c + if c = d then V else 0)
  by_cases e : c = d
  · subst e
    rw [if_pos rfl, Go.WX.bmp, set_get_eq (by omega)]
    exact (wr_cg _).trans ((h.2 c hc).add hv)
  · rw [if_neg e, Go.WX.bmp, set_get_ne (fun h9 => e h9.symm), Int.add_zero]
    exact h.2 c hc
theorem Rpz.zero (S : Nat) : Rpz S (zr S) (fun _ => 0) := ⟨zr_len S, fun c _ => by rw [zr_get]; exact cg.refl _⟩
theorem Rpz.inB (hp : Rpz S p P) (hq : Rpz S q Q) (h : Rpz S r F) {a : Nat} (ha : a < S) (hnx : ∀ b, b < S → (nx.getD ((a : Int) * a0 + (b : Int)).toNat 0).toNat < S) : ∀ b, b ≤ S →
    Rpz S (inB nx a0 p q a r b) (fun c => F c + sumR (fun b' => if c = (nx.getD ((a : Int) * a0 + (b' : Int)).toNat 0).toNat then P a * Q b' else 0) b)
  | 0, _ => h.congr fun c _ => by rw [sumR]; omega
  | b + 1, hb => by
    have ih := Rpz.inB hp hq h ha hnx b (by omega)
    rw [← inB_succ]
    refine (ih.bmp (hnx b (by omega)) ((wr_cg _).trans ((hp.2 a ha).mul (hq.2 b (by omega))))).congr fun c _ => ?_
    rw [sumR]; omega
theorem Rpz.inA (hp : Rpz S p P) (hq : Rpz S q Q) (h : Rpz S r F) (hS : a0.toNat = S) (hnx : ∀ a b, a < S → b < S → (nx.getD ((a : Int) * a0 + (b : Int)).toNat 0).toNat < S) : ∀ a, a ≤ S →
    Rpz S (inA nx a0 p q r a) (fun c => F c + sumR (fun a' => sumR (fun b' => if c = (nx.getD ((a' : Int) * a0 + (b' : Int)).toNat 0).toNat then P a' * Q b' else 0) S) a)
  | 0, _ => h.congr fun c _ => by rw [sumR]; omega
  | a + 1, ha => by
    have ih := Rpz.inA hp hq h hS hnx a (by omega)
    rw [← inA_succ, hS]
    refine (Rpz.inB hp hq ih (show a < S by omega) (fun b hb => hnx a b (by omega) hb) S (Nat.le_refl _)).congr fun c _ => ?_
    rw [sumR]; omega
end
section
variable {a0 L : Int} {lf nx : List Int} {en : List Bool}
/-- How many of some trees have a state. -/
def cntS (a0 : Int) (lf nx : List Int) (X : List Tre) (c : Nat) : Int := sumT (fun t => if c = (stT a0 lf nx t).toNat then 1 else 0) X
theorem cnt_sum (t : TV a0 L lf nx) (f : Nat → Int) : ∀ X : List Tre, (∀ T ∈ X, okTr L T) → sumR (fun a => cntS a0 lf nx X a * f a) a0.toNat = sumT (fun T => f (stT a0 lf nx T).toNat) X
  | [], _ => by
    have : sumR (fun a => cntS a0 lf nx [] a * f a) a0.toNat = sumR (fun _ => 0) a0.toNat := sumR_congr fun i _ => by simp [cntS, sumT]
    rw [this, sumR_zero]; rfl
  | T :: X, h => by
    have ih := cnt_sum t f X fun U hU => h U (List.mem_cons_of_mem _ hU)
    have hr := st_rng t.s t.ll t.nl t.li t.ni T (h T List.mem_cons_self)
    have e : sumR (fun a => cntS a0 lf nx (T :: X) a * f a) a0.toNat = sumR (fun a => (if a = (stT a0 lf nx T).toNat then f a else 0) + cntS a0 lf nx X a * f a) a0.toNat := sumR_congr fun i _ => by
      show (sumT _ (T :: X)) * f i = _
      rw [sumT, Int.add_mul]
      by_cases e : i = (stT a0 lf nx T).toNat
      · rw [if_pos e, if_pos e, Int.one_mul]; rfl
      · rw [if_neg e, if_neg e, Int.zero_mul]; rfl
    rw [e, sumR_add, sumR_ind, ih, if_pos (by omega)]; rfl
theorem cnt_node (t : TV a0 L lf nx) {X Y : List Tre} (hX : ∀ T ∈ X, okTr L T) (hY : ∀ T ∈ Y, okTr L T) (c : Nat) :
    sumR (fun a => sumR (fun b => if c = (nx.getD ((a : Int) * a0 + (b : Int)).toNat 0).toNat then cntS a0 lf nx X a * cntS a0 lf nx Y b else 0) a0.toNat) a0.toNat = cntS a0 lf nx (nodeT X Y) c := by
  have e1 : cntS a0 lf nx (nodeT X Y) c = sumT (fun A => sumT (fun B => if c = (stT a0 lf nx (.node A B)).toNat then 1 else 0) Y) X := by
    unfold cntS nodeT; rw [sumT_flat]; exact sumT_congr fun A _ => sumT_map Y
  have e2 : sumT (fun A => sumT (fun B => if c = (stT a0 lf nx (.node A B)).toNat then 1 else 0) Y) X = sumT (fun A => (fun s : Nat => sumR (fun b => cntS a0 lf nx Y b * (if c = (nx.getD ((s : Int) * a0 + (b : Int)).toNat 0).toNat then 1 else 0)) a0.toNat) (stT a0 lf nx A).toNat) X := sumT_congr fun A hA => by
    have hr := st_rng t.s t.ll t.nl t.li t.ni A (hX A hA)
    show _ = sumR (fun b => cntS a0 lf nx Y b * (fun b : Nat => if c = (nx.getD (((stT a0 lf nx A).toNat : Int) * a0 + (b : Int)).toNat 0).toNat then (1 : Int) else 0) b) a0.toNat
    rw [cnt_sum t (fun b : Nat => if c = (nx.getD (((stT a0 lf nx A).toNat : Int) * a0 + (b : Int)).toNat 0).toNat then (1 : Int) else 0) Y hY]
    refine sumT_congr fun B hB => ?_
    have hs := st_rng t.s t.ll t.nl t.li t.ni B (hY B hB)
    rw [Int.toNat_of_nonneg hr.1, Int.toNat_of_nonneg hs.1]; rfl
  rw [e1, e2]
  refine Eq.trans ?_ (cnt_sum t (fun s : Nat => sumR (fun b => cntS a0 lf nx Y b * (if c = (nx.getD ((s : Int) * a0 + (b : Int)).toNat 0).toNat then 1 else 0)) a0.toNat) X hX)
  refine sumR_congr fun a _ => ?_
  rw [← sumR_mul]
  refine sumR_congr fun b _ => ?_
  by_cases e : c = (nx.getD ((a : Int) * a0 + (b : Int)).toNat 0).toNat
  · rw [if_pos e, if_pos e, Int.mul_one]
  · rw [if_neg e, if_neg e, Int.mul_zero, Int.mul_zero]
theorem cnt_app (X Y : List Tre) (c : Nat) : cntS a0 lf nx (X ++ Y) c = cntS a0 lf nx X c + cntS a0 lf nx Y c := sumT_app X Y
theorem nx_lt (t : TV a0 L lf nx) (a b : Nat) (ha : a < a0.toNat) (hb : b < a0.toNat) : (nx.getD ((a : Int) * a0 + (b : Int)).toNat 0).toNat < a0.toNat := by
  have := t.join (a := (a : Int)) (b := (b : Int)) (by omega) (by omega); omega
/-- The table counts the trees. -/
def TabOk (a0 : Int) (lf nx : List Int) (T : List (List Int)) (U : List (List Tre)) : Prop := T.length = U.length ∧ ∀ n, n < U.length → Rpz a0.toNat (T.getD n []) (cntS a0 lf nx (U.getD n []))
theorem inL_ok (t : TV a0 L lf nx) {T : List (List Int)} {U : List (List Tre)} (h : TabOk a0 lf nx T U) (hU : ∀ X ∈ U, ∀ A ∈ X, okTr L A) {m : Nat} (hm : m ≤ U.length) : ∀ l, l + 1 ≤ m →
    Rpz a0.toNat (inL nx a0 T m (zr a0.toNat) l) (cntS a0 lf nx ((List.range l).flatMap fun l => nodeT (U.getD (l + 1) []) (U.getD (m - (l + 1)) [])))
  | 0, _ => Rpz.zero _
  | l + 1, hl => by
    have ih := inL_ok t h hU hm l (by omega)
    rw [← inL_succ]
    refine (Rpz.inA (h.2 (l + 1) (by omega)) (h.2 (m - (l + 1)) (by omega)) ih rfl (fun a b ha hb => nx_lt t a b ha hb) _ (Nat.le_refl _)).congr fun c _ => ?_
    rw [List.range_succ, List.flatMap_append, cnt_app]
    congr 1
    have hg : ∀ l, ∀ A ∈ U.getD l [], okTr L A := fun l A hA => hU _ (getD_in hA) A hA
    rw [cnt_node t (hg _) (hg _)]; simp
theorem r1_ok (t : TV a0 L lf nx) : ∀ k, k ≤ lf.length → Rpz a0.toNat (r1 a0.toNat lf k) (cntS a0 lf nx ((List.range k).map fun x : Nat => Tre.leaf (x : Int)))
  | 0, _ => Rpz.zero _
  | k + 1, hk => by
    have ih := r1_ok t k (by omega)
    have hg := allIn_get t.li (k := k) (by omega)
    rw [← r1_succ (by omega)]
    refine (ih.bmp (by omega) (cg.refl 1)).congr fun c _ => ?_
    rw [List.range_succ, List.map_append, cnt_app]
    congr 1
    show _ = (if c = (lf.getD ((k : Int)).toNat 0).toNat then 1 else 0) + 0
    rw [Int.toNat_natCast, Int.add_zero]
theorem tab_ok (t : TV a0 L lf nx) : ∀ k, TabOk a0 lf nx (tabC a0 lf nx k) (tabT L k)
  | 0 => by
    refine ⟨rfl, fun n hn => ?_⟩
    match n, hn with
    | 0, _ => exact Rpz.zero _
    | 1, _ =>
      have h := r1_ok t lf.length (Nat.le_refl _)
      rw [show lf.length = L.toNat by have := t.ll; omega] at h
      show Rpz a0.toNat (r1 a0.toNat lf lf.length) (cntS a0 lf nx (lfsT L))
      rw [show lf.length = L.toNat by have := t.ll; omega]
      exact h
    | n + 2, hn => exact absurd hn (by simp [tabT])
  | k + 1 => by
    have ih := tab_ok t k
    have hl := tabT_len L k
    refine ⟨by rw [tabC, tabT, List.length_append, List.length_append, ih.1]; rfl, fun n hn => ?_⟩
    rw [tabC, tabT]
    rw [tabT, List.length_append, List.length_singleton] at hn
    by_cases e : n < (tabT L k).length
    · have e2 : n < (tabC a0 lf nx k).length := by rw [ih.1]; exact e
      rw [List.getD_eq_getElem?_getD, List.getElem?_append_left e2, ← List.getD_eq_getElem?_getD, List.getD_eq_getElem?_getD (l := tabT L k ++ _), List.getElem?_append_left e, ← List.getD_eq_getElem?_getD]
      exact ih.2 n e
    · obtain rfl : n = (tabT L k).length := by omega
      have e3 : (tabC a0 lf nx k ++ [rowC nx a0 (tabC a0 lf nx k) (k + 2)]).getD (tabT L k).length [] = rowC nx a0 (tabC a0 lf nx k) (k + 2) := by
        rw [← ih.1, List.getD_eq_getElem?_getD, List.getElem?_append_right (Nat.le_refl _)]; simp
      have e4 : (tabT L k ++ [rowT (tabT L k) (k + 2)]).getD (tabT L k).length [] = rowT (tabT L k) (k + 2) := by
        rw [List.getD_eq_getElem?_getD, List.getElem?_append_right (Nat.le_refl _)]; simp
      rw [e3, e4]
      exact inL_ok t ih (tabT_ok L k) (by omega) (k + 1) (by omega)
theorem sumE_ok {row : List Int} {F : Nat → Int} {S : Nat} (h : Rpz S row F) : ∀ k, k ≤ S → cg (sumE en row k) (sumR (fun s => F s * if en.getD s false = true then 1 else 0) k) ∧ (-9223372036854775808 ≤ sumE en row k ∧ sumE en row k ≤ 9223372036854775807)
  | 0, _ => ⟨cg.refl _, by show (-9223372036854775808 : Int) ≤ 0 ∧ (0 : Int) ≤ 9223372036854775807; decide⟩
  | k + 1, hk => by
    have ih := sumE_ok h k (by omega)
    cases e : en.getD k false with
    | true =>
      rw [← sumE_yes e, sumR, if_pos e, Int.mul_one]
      exact ⟨(wr_cg _).trans (ih.1.add (h.2 k (by omega))), wr_in _⟩
    | false =>
      rw [← sumE_no e, sumR, if_neg (by rw [e]; decide), Int.mul_zero, Int.add_zero]
      exact ih
/-- As many trees are read as there are trees that are read. -/
theorem ct_count (t : TV a0 L lf nx) {n : Nat} (hn : 1 ≤ n ∧ n ≤ 8) (hX : ((tabT L (n - 1)).getD n []).length ≤ 1000000) :
    ctI true a0 lf nx en (n : Int) = (((tabT L (n - 1)).getD n []).countP fun T => en.getD (stT a0 lf nx T).toNat false : Nat) := by
  have h := (tab_ok t (n - 1)).2 n (by rw [tabT_len]; omega)
  have h1 := sumE_ok (en := en) h a0.toNat (Nat.le_refl _)
  have e : ctI true a0 lf nx en (n : Int) = sumE en ((tabC a0 lf nx (n - 1)).getD n []) a0.toNat := by
    rw [ct_y (j := n - 1) (k := a0.toNat) rfl (by omega) (by omega) (by have := t.s; omega), Int.toNat_natCast]
  have hok : ∀ T ∈ (tabT L (n - 1)).getD n [], okTr L T := fun T hT => tabT_ok L (n - 1) _ (getD_in hT) T hT
  rw [cnt_sum t _ _ hok, sumT_countP (fun T => en.getD (stT a0 lf nx T).toNat false)] at h1
  rw [e]
  have hc := List.countP_le_length (p := fun T => en.getD (stT a0 lf nx T).toNat false) (l := (tabT L (n - 1)).getD n [])
  exact cg_eq h1.1 h1.2 ⟨by omega, by omega⟩
theorem all_le {L : Int} (hL : 1 ≤ L ∧ L ≤ 3) {n : Nat} (hn : 1 ≤ n ∧ n ≤ 6) : ((tabT L (n - 1)).getD n []).length ≤ 1000000 := by
  rw [all_len hL hn]
  have key : ∀ l : Fin 4, ∀ k : Fin 7, shpN k.val * l.val ^ k.val ≤ 1000000 := by decide +kernel
  exact key ⟨L.toNat, by omega⟩ ⟨n, by omega⟩
theorem ct_other (t : TV a0 L lf nx) (hL : 1 ≤ L ∧ L ≤ 3) (he : (en.length : Int) = a0) {n : Nat} (hn : 1 ≤ n ∧ n ≤ 6) : ctI true a0 lf nx en (n : Int) + ctI true a0 lf nx (en.map not) (n : Int) = ((shpN n * L.toNat ^ n : Nat) : Int) := by
  rw [ct_count t (by omega) (all_le hL hn), ct_count t (by omega) (all_le hL hn), ← all_len hL hn]
  have hok : ∀ T ∈ (tabT L (n - 1)).getD n [], okTr L T := fun T hT => tabT_ok L (n - 1) _ (getD_in hT) T hT
  have e : ((tabT L (n - 1)).getD n []).countP (fun T => (en.map not).getD (stT a0 lf nx T).toNat false) = ((tabT L (n - 1)).getD n []).countP (fun T => !en.getD (stT a0 lf nx T).toNat false) := List.countP_congr fun T hT => by
    have hr := st_rng t.s t.ll t.nl t.li t.ni T (hok T hT)
    have hlt : (stT a0 lf nx T).toNat < en.length := by omega
    simp [List.getD_eq_getElem?_getD, hlt]
  rw [e]
  have := List.length_eq_countP_add_countP (fun T => en.getD (stT a0 lf nx T).toNat false) (l := (tabT L (n - 1)).getD n [])
  have e2 : ((tabT L (n - 1)).getD n []).countP (fun T => !en.getD (stT a0 lf nx T).toNat false) = ((tabT L (n - 1)).getD n []).countP (fun T => decide ¬(en.getD (stT a0 lf nx T).toNat false) = true) := List.countP_congr fun T _ => by simp
  omega
theorem ct_small (t : TV a0 L lf nx) (hL : 1 ≤ L ∧ L ≤ 3) (he : (en.length : Int) = a0) {m : Int} {s2 s3 : List Int} {s4 : List Bool} (h : SmOf a0 lf nx en m s2 s3 s4) {n : Nat} (hn : 1 ≤ n ∧ n ≤ 6) : ctI true m s2 s3 s4 (n : Int) = ctI true a0 lf nx en (n : Int) := by
  have hs := (sm_tv t he h).1
  rw [ct_count t (by omega) (all_le hL hn), ct_count hs (by omega) (all_le hL hn)]
  congr 1
  refine List.countP_congr fun T hT => ?_
  rw [sm_read t h (tabT_ok L (n - 1) _ (getD_in hT) T hT)]
theorem ct_zero (t : TV a0 L lf nx) (hL : 1 ≤ L ∧ L ≤ 3) (h : ∀ i, i < (foundL a0 nx lf).length → en.getD (rS (foundL a0 nx lf) i).toNat false = false) {n : Nat} (hn : 1 ≤ n ∧ n ≤ 6) : ctI true a0 lf nx en (n : Int) = 0 := by
  rw [ct_count t (by omega) (all_le hL hn)]
  have : ((tabT L (n - 1)).getD n []).countP (fun T => en.getD (stT a0 lf nx T).toNat false) = 0 := List.countP_eq_zero.2 fun T hT h9 => by
    obtain ⟨i, hi, e⟩ := mem_found (st_found t T (tabT_ok L (n - 1) _ (getD_in hT) T hT))
    have := h i hi
    rw [e] at this
    rw [this] at h9; cases h9
  rw [this]; rfl
end
end Go.WX
