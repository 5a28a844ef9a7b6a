/- Plain laws on the number of parses; no program. No condition. -/
import Derived.Test.YthemmoceomdccaaPlB
namespace Go.WX
open Go

def sumN (f : Nat → Int) : Nat → Int
  | 0 => 0
  | k + 1 => sumN f k + f k
theorem sumN_succ (f : Nat → Int) (k : Nat) : sumN f (k + 1) = sumN f k + f k := rfl
theorem sumN_congr {f g : Nat → Int} : ∀ {n : Nat}, (∀ k, k < n → f k = g k) → sumN f n = sumN g n
  | 0, _ => rfl
  | n + 1, h => by unfold sumN; rw [sumN_congr (fun k hk => h k (by omega)), h n (by omega)]
theorem sumN_nn {f : Nat → Int} : ∀ {n : Nat}, (∀ k, k < n → 0 ≤ f k) → 0 ≤ sumN f n
  | 0, _ => by simp [sumN]
  | n + 1, h => by unfold sumN; have := sumN_nn (fun k hk => h k (Nat.lt_succ_of_lt hk)); have := h n (by omega); omega
theorem sumN_le {f : Nat → Int} {m : Nat} : ∀ {n : Nat}, m ≤ n → (∀ k, k < n → 0 ≤ f k) → sumN f m ≤ sumN f n
  | 0, h, _ => by rw [Nat.le_zero.1 h]; exact Int.le_refl _
  | n + 1, h, h2 => by
    rcases Nat.lt_or_eq_of_le h with h3 | rfl
    · have := sumN_le (Nat.le_of_lt_succ h3) (fun k hk => h2 k (Nat.lt_succ_of_lt hk)); have := h2 n (by omega); rw [sumN_succ]; omega
    · exact Int.le_refl _
/-- The number of trees of a name over a part of a word. -/
def cntF (rs : List R4) (wd : List Int) : Nat → Nat → Nat → Int → Int
  | 0, _, _, _ => 0
  | n + 1, i, j, a => sumN (fun k => if (rl rs k).1 = a then (if (rl rs k).2.2.1 < 0 then (if j = i + 1 ∧ wd.getD i 0 = (rl rs k).2.1 then 1 else 0)
      else sumN (fun t => cntF rs wd n i (i + 1 + t) (rl rs k).2.1 * cntF rs wd n (i + 1 + t) j (rl rs k).2.2.1) (j - (i + 1))) else 0) rs.length
theorem cntF_fuel {rs : List R4} {wd : List Int} : ∀ (n m : Nat) {i j : Nat} {a : Int}, i < j → j - i ≤ n → j - i ≤ m → cntF rs wd n i j a = cntF rs wd m i j a
  | 0, _, _, _, _, h, h1, _ => by omega
  | _ + 1, 0, _, _, _, h, _, h2 => by omega
  | n + 1, m + 1, i, j, a, h, h1, h2 => by
    unfold cntF
    refine sumN_congr (fun k _ => ?_)
    split
    · split
      · rfl
      · refine sumN_congr (fun t ht => ?_)
        rw [cntF_fuel n m (by omega) (by omega) (by omega), cntF_fuel n m (i := i + 1 + t) (by omega) (by omega) (by omega)]
    · rfl
def cnt (rs : List R4) (wd : List Int) (i j : Nat) (a : Int) : Int := cntF rs wd (j - i) i j a
/-- What rule k gives. -/
def rc (rs : List R4) (wd : List Int) (i j k : Nat) : Int := if (rl rs k).2.2.1 < 0 then (if j = i + 1 ∧ wd.getD i 0 = (rl rs k).2.1 then 1 else 0)
  else sumN (fun t => cnt rs wd i (i + 1 + t) (rl rs k).2.1 * cnt rs wd (i + 1 + t) j (rl rs k).2.2.1) (j - (i + 1))
/-- What the rules ahead of K give. -/
def SK (rs : List R4) (wd : List Int) (i j K : Nat) (a : Int) : Int := sumN (fun k => if (rl rs k).1 = a then rc rs wd i j k else 0) K
theorem cnt_eq {rs : List R4} {wd : List Int} {i j : Nat} {a : Int} (h : i < j) : cnt rs wd i j a = SK rs wd i j rs.length a := by
  unfold cnt
  obtain ⟨n, hn⟩ : ∃ n, j - i = n + 1 := ⟨j - i - 1, by omega⟩
  rw [hn]
  unfold cntF SK
  refine sumN_congr (fun k _ => ?_)
  split
  · unfold rc
    split
    · rfl
    · refine sumN_congr (fun t ht => ?_)
      unfold cnt
      rw [cntF_fuel n (i + 1 + t - i) (by omega) (by omega) (by omega), cntF_fuel n (j - (i + 1 + t)) (i := i + 1 + t) (by omega) (by omega) (by omega)]
  · rfl
theorem cntF_nn {rs : List R4} {wd : List Int} : ∀ (n : Nat) (i j : Nat) (a : Int), 0 ≤ cntF rs wd n i j a
  | 0, _, _, _ => by simp [cntF]
  | n + 1, i, j, a => by
    unfold cntF
    refine sumN_nn (fun k _ => ?_)
    split
    · split
      · split <;> omega
      · exact sumN_nn (fun t _ => Int.mul_nonneg (cntF_nn n _ _ _) (cntF_nn n _ _ _))
    · omega
theorem cnt_nn (rs : List R4) (wd : List Int) (i j : Nat) (a : Int) : 0 ≤ cnt rs wd i j a := cntF_nn _ _ _ _
/-- What the places ahead of M give, by rule K. -/
def uM (rs : List R4) (wd : List Int) (i j K M : Nat) : Int := if (rl rs K).2.2.1 < 0 then (if j = i + 1 ∧ wd.getD i 0 = (rl rs K).2.1 then 1 else 0)
  else sumN (fun t => cnt rs wd i (i + 1 + t) (rl rs K).2.1 * cnt rs wd (i + 1 + t) j (rl rs K).2.2.1) (M - (i + 1))
section
variable {rs : List R4} {wd : List Int} {i j K M : Nat} {a : Int}
theorem rc_nn (k : Nat) : 0 ≤ rc rs wd i j k := by
  unfold rc; split
  · split <;> omega
  · exact sumN_nn (fun t _ => Int.mul_nonneg (cnt_nn _ _ _ _ _) (cnt_nn _ _ _ _ _))
theorem uM_nn : 0 ≤ uM rs wd i j K M := by
  unfold uM; split
  · split <;> omega
  · exact sumN_nn (fun t _ => Int.mul_nonneg (cnt_nn _ _ _ _ _) (cnt_nn _ _ _ _ _))
theorem SK_nn : 0 ≤ SK rs wd i j K a := sumN_nn (fun k _ => by split; exact rc_nn k; omega)
theorem SK_zero : SK rs wd i j 0 a = 0 := rfl
theorem SK_succ : SK rs wd i j (K + 1) a = SK rs wd i j K a + (if (rl rs K).1 = a then rc rs wd i j K else 0) := rfl
theorem SK_le (hK : K ≤ rs.length) (h : i < j) : SK rs wd i j K a ≤ cnt rs wd i j a := by
  rw [cnt_eq h]; exact sumN_le hK (fun k _ => by split; exact rc_nn k; omega)
theorem uM_leaf (h : (rl rs K).2.2.1 < 0) : uM rs wd i j K M = rc rs wd i j K := by unfold uM rc; rw [if_pos h, if_pos h]
theorem uM_zero (h : 0 ≤ (rl rs K).2.2.1) : uM rs wd i j K (i + 1) = 0 := by unfold uM; rw [if_neg (by omega), Nat.sub_self]; rfl
theorem uM_succ (h : 0 ≤ (rl rs K).2.2.1) (hM : i < M) : uM rs wd i j K (M + 1) = uM rs wd i j K M + cnt rs wd i M (rl rs K).2.1 * cnt rs wd M j (rl rs K).2.2.1 := by
  unfold uM; rw [if_neg (by omega), if_neg (by omega), show M + 1 - (i + 1) = (M - (i + 1)) + 1 from by omega]
  rw [sumN_succ, show i + 1 + (M - (i + 1)) = M from by omega]
theorem uM_done (h : 0 ≤ (rl rs K).2.2.1) : uM rs wd i j K j = rc rs wd i j K := by unfold uM rc; rw [if_neg (by omega)]
theorem uM_le (hM : M ≤ j) : uM rs wd i j K M ≤ rc rs wd i j K := by
  unfold uM rc; split
  · exact Int.le_refl _
  · exact sumN_le (by omega) (fun t _ => Int.mul_nonneg (cnt_nn _ _ _ _ _) (cnt_nn _ _ _ _ _))
theorem uM_one (h : (rl rs K).2.2.1 < 0) : uM rs wd i j K M = if j = i + 1 ∧ wd.getD i 0 = (rl rs K).2.1 then 1 else 0 := by unfold uM; rw [if_pos h]
theorem part_le (hK : K < rs.length) (h : i < j) (hM : M ≤ j) : SK rs wd i j K (rl rs K).1 + uM rs wd i j K M ≤ cnt rs wd i j (rl rs K).1 := by
  have h1 := SK_le (rs := rs) (wd := wd) (i := i) (j := j) (K := K + 1) (a := (rl rs K).1) hK h
  have h2 := uM_le (rs := rs) (wd := wd) (i := i) (K := K) hM
  rw [SK_succ, if_pos rfl] at h1; omega
end
/-- No number is too great. -/
def okT (rs : List R4) (wd : List Int) (nm : Int) : Prop := ∀ i j, i < j → j ≤ wd.length → ∀ a, 0 ≤ a → a < nm → cnt rs wd i j a ≤ 1000000000
/-! ### Tables -/
section
variable {α : Type} {sn : Nat → Nat → Int → α → Prop} {cur cur' : Int → α → Prop} {d v0 : α} {wd : List Int} {nm : Int} {W Nm N : Nat} {xs : List α} {L I : Nat}
/-- A table whose parts before (L, I) are done; the rest is fresh. -/
structure TD (sn : Nat → Nat → Int → α → Prop) (d v0 : α) (wd : List Int) (nm : Int) (W Nm N : Nat) (xs : List α) (L I : Nat) : Prop where
  n : xs.length = N
  ok : ∀ i j, i < j → j ≤ wd.length → (j - i < L ∨ (j - i = L ∧ i < I)) → ∀ a, 0 ≤ a → a < nm → sn i j a (cl d W Nm xs i j a)
  z : ∀ i j, i < j → j ≤ wd.length → ¬ (j - i < L ∨ (j - i = L ∧ i < I)) → ∀ a, 0 ≤ a → a < nm → cl d W Nm xs i j a = v0
/-- The same while the part I to I + L is under way. -/
structure TQ (sn : Nat → Nat → Int → α → Prop) (d v0 : α) (wd : List Int) (nm : Int) (W Nm N : Nat) (xs : List α) (L I : Nat) (cur : Int → α → Prop) : Prop where
  n : xs.length = N
  ok : ∀ i j, i < j → j ≤ wd.length → (j - i < L ∨ (j - i = L ∧ i < I)) → ∀ a, 0 ≤ a → a < nm → sn i j a (cl d W Nm xs i j a)
  z : ∀ i j, i < j → j ≤ wd.length → ¬ (j - i < L ∨ (j - i = L ∧ i < I)) → ¬ (i = I ∧ j = I + L) → ∀ a, 0 ≤ a → a < nm → cl d W Nm xs i j a = v0
  so : ∀ a, 0 ≤ a → a < nm → cur a (cl d W Nm xs I (I + L) a)
theorem TD.start (h : TD sn d v0 wd nm W Nm N xs L I) (hL : 1 ≤ L) (hI : I + L ≤ wd.length) (h0 : ∀ a, cur a v0) : TQ sn d v0 wd nm W Nm N xs L I cur :=
  ⟨h.n, h.ok, fun i j h1 h2 h3 _ => h.z i j h1 h2 h3, fun a h1 h2 => by rw [h.z I (I + L) (by omega) hI (by omega) a h1 h2]; exact h0 a⟩
theorem TQ.mono (h : TQ sn d v0 wd nm W Nm N xs L I cur) (hm : ∀ a v, 0 ≤ a → a < nm → cur a v → cur' a v) : TQ sn d v0 wd nm W Nm N xs L I cur' := ⟨h.n, h.ok, h.z, fun a h1 h2 => hm a _ h1 h2 (h.so a h1 h2)⟩
theorem TQ.weak {sn' : Nat → Nat → Int → α → Prop} (h : TQ sn d v0 wd nm W Nm N xs L I cur) (hs : ∀ i j a v, sn i j a v → sn' i j a v) : TQ sn' d v0 wd nm W Nm N xs L I cur := ⟨h.n, fun i j h1 h2 h3 a h4 h5 => hs _ _ _ _ (h.ok i j h1 h2 h3 a h4 h5), h.z, h.so⟩
theorem TQ.set (h : TQ sn d v0 wd nm W Nm N xs L I cur) {b : Int} {u : α} (hW : wd.length < W) (hI : I + L ≤ wd.length) (hN : nm ≤ Nm) (hb : 0 ≤ b ∧ b < nm) (hx : (I * W + (I + L)) * Nm + b.toNat < N)
    (hu : cur' b u) (hm : ∀ a v, a ≠ b → cur a v → cur' a v) : TQ sn d v0 wd nm W Nm N (xs.set ((I * W + (I + L)) * Nm + b.toNat) u) L I cur' := by
  have hn := h.n
  refine ⟨by rw [List.length_set]; exact hn, fun i j h1 h2 h3 a h4 h5 => ?_, fun i j h1 h2 h3 h6 a h4 h5 => ?_, fun a h4 h5 => ?_⟩
  · rw [cl_ne hW h2 hI ⟨h4, h5⟩ hb hN (by omega)]; exact h.ok i j h1 h2 h3 a h4 h5
  · rw [cl_ne hW h2 hI ⟨h4, h5⟩ hb hN (by omega)]; exact h.z i j h1 h2 h3 h6 a h4 h5
  · by_cases e : a = b
    · subst e; rw [cl_eq (by omega)]; exact hu
    · rw [cl_ne hW hI hI ⟨h4, h5⟩ hb hN (by omega)]; exact hm a _ e (h.so a h4 h5)
theorem TQ.fin (h : TQ sn d v0 wd nm W Nm N xs L I cur) (hs : ∀ a v, 0 ≤ a → a < nm → cur a v → sn I (I + L) a v) : TD sn d v0 wd nm W Nm N xs L (I + 1) := by
  refine ⟨h.n, fun i j h1 h2 h3 a h4 h5 => ?_, fun i j h1 h2 h3 a h4 h5 => h.z i j h1 h2 (by omega) (by omega) a h4 h5⟩
  by_cases e : i = I ∧ j = I + L
  · obtain ⟨rfl, rfl⟩ := e; exact hs a _ h4 h5 (h.so a h4 h5)
  · exact h.ok i j h1 h2 (by omega) a h4 h5
theorem TD.next (h : TD sn d v0 wd nm W Nm N xs L I) (hI : wd.length < I + L) : TD sn d v0 wd nm W Nm N xs (L + 1) 0 :=
  ⟨h.n, fun i j h1 h2 h3 => h.ok i j h1 h2 (by omega), fun i j h1 h2 h3 => h.z i j h1 h2 (by omega)⟩
theorem TD.zero (hr : ∀ i j : Nat, ∀ a : Int, i < j → j ≤ wd.length → 0 ≤ a → a < nm → (i * W + j) * Nm + a.toNat < N) : TD sn d v0 wd nm W Nm N (List.replicate N v0) 1 0 :=
  ⟨List.length_replicate, fun i j h1 _ h => by omega, fun i j h1 h2 _ a h3 h4 => by
    have := hr i j a h1 h2 h3 h4
    simp [cl, List.getD_eq_getElem?_getD, this]⟩
theorem TQ.left (h : TQ sn d v0 wd nm W Nm N xs L I cur) {m : Nat} {a : Int} (hI : I + L ≤ wd.length) (h1 : I < m) (h2 : m < I + L) (ha : 0 ≤ a ∧ a < nm) : sn I m a (cl d W Nm xs I m a) := h.ok I m h1 (by omega) (by omega) a ha.1 ha.2
theorem TQ.right (h : TQ sn d v0 wd nm W Nm N xs L I cur) {m : Nat} {a : Int} (hI : I + L ≤ wd.length) (h1 : I < m) (h2 : m < I + L) (ha : 0 ≤ a ∧ a < nm) : sn m (I + L) a (cl d W Nm xs m (I + L) a) := h.ok m (I + L) h2 (by omega) (by omega) a ha.1 ha.2
theorem TD.at (h : TD sn d v0 wd nm W Nm N xs (wd.length + 1) I) {i j : Nat} {a : Int} (h1 : i < j) (h2 : j ≤ wd.length) (ha : 0 ≤ a ∧ a < nm) : sn i j a (cl d W Nm xs i j a) := h.ok i j h1 h2 (by omega) a ha.1 ha.2
end
/-! ### What cells hold; E: the numbers are exact -/
def snC (E : Prop) (rs : List R4) (wd : List Int) (i j : Nat) (a v : Int) : Prop := 0 ≤ v ∧ v ≤ 1000000040 ∧ (E → v = cnt rs wd i j a ∧ v ≤ 1000000000)
/-- K rules are done. -/
def cuK (E : Prop) (rs : List R4) (wd : List Int) (L I K : Nat) (a v : Int) : Prop := 0 ≤ v ∧ (L = 1 → v ≤ K) ∧ (L ≠ 1 → v ≤ 1000000001) ∧ (E → v = SK rs wd I (I + L) K a ∧ v ≤ 1000000000)
/-- Rule K is under way. -/
def cuM (E : Prop) (rs : List R4) (wd : List Int) (L I K M : Nat) (a v : Int) : Prop := 0 ≤ v ∧ (L = 1 → v ≤ K + 1) ∧ (L ≠ 1 → v ≤ 1000000001) ∧
  (E → (a = (rl rs K).1 → v = min 1000000001 (SK rs wd I (I + L) K a + uM rs wd I (I + L) K M)) ∧ (a ≠ (rl rs K).1 → v = SK rs wd I (I + L) K a ∧ v ≤ 1000000000))
abbrev TDC (E : Prop) (rs : List R4) (wd : List Int) (nm : Int) (W Nm N : Nat) (xs : List Int) (L I : Nat) : Prop := TD (snC E rs wd) 0 0 wd nm W Nm N xs L I
abbrev TQK (E : Prop) (rs : List R4) (wd : List Int) (nm : Int) (W Nm N : Nat) (xs : List Int) (L I K : Nat) : Prop := TQ (snC E rs wd) 0 0 wd nm W Nm N xs L I (cuK E rs wd L I K)
abbrev TQM (E : Prop) (rs : List R4) (wd : List Int) (nm : Int) (W Nm N : Nat) (xs : List Int) (L I K M : Nat) : Prop := TQ (snC E rs wd) 0 0 wd nm W Nm N xs L I (cuM E rs wd L I K M)
section
variable {E : Prop} {rs : List R4} {wd : List Int} {nm l : Int} {W Nm N : Nat} {xs : List Int} {L I K M : Nat}
theorem cuK_zero (E : Prop) (rs : List R4) (wd : List Int) (L I : Nat) (a : Int) : cuK E rs wd L I 0 a 0 := ⟨by omega, fun _ => by omega, fun _ => by omega, fun _ => ⟨SK_zero.symm, by omega⟩⟩
/-- Rule K begins: no leaf is met. -/
theorem TQK.open_no (h : TQK E rs wd nm W Nm N xs L I K) (hn : ¬ ((rl rs K).2.2.1 < 0 ∧ L = 1 ∧ wd.getD I 0 = (rl rs K).2.1)) : TQM E rs wd nm W Nm N xs L I K (I + 1) :=
  TQ.mono h (fun a v h1 h2 ⟨c1, c2, c3, c4⟩ => ⟨c1, fun e => by have := c2 e; omega, c3, fun he => by
    obtain ⟨e1, e2⟩ := c4 he
    refine ⟨fun e => ?_, fun _ => ⟨e1, e2⟩⟩
    have hu : uM rs wd I (I + L) K (I + 1) = 0 := by
      rcases Int.lt_or_le (rl rs K).2.2.1 0 with h | h
      · rw [uM_one h, if_neg (fun hh => hn ⟨h, by omega, hh.2⟩)]
      · exact uM_zero h
    rw [hu, Int.add_zero, ← e1, Int.min_eq_right (by omega)]⟩)
/-- Rule K begins: its leaf is met. -/
theorem TQK.open_leaf (h : TQK E rs wd nm W Nm N xs L I K) (g : gramV nm l rs) (hW : wd.length < W) (hI : I + L ≤ wd.length) (hN : nm ≤ Nm) (hK : K < rs.length) (hK2 : K < 32) (hx : (I * W + (I + L)) * Nm + (rl rs K).1.toNat < N)
    (h2 : (rl rs K).2.2.1 < 0) (hL : L = 1) (hw : wd.getD I 0 = (rl rs K).2.1) : TQM E rs wd nm W Nm N (xs.set ((I * W + (I + L)) * Nm + (rl rs K).1.toNat) (cl 0 W Nm xs I (I + L) (rl rs K).1 + 1)) L I K (I + 1) := by
  have hl := gram_left g K hK
  have hu : uM rs wd I (I + L) K (I + 1) = 1 := by rw [uM_one h2, if_pos ⟨by omega, hw⟩]
  obtain ⟨c1, c2, c3, c4⟩ := h.so _ hl.1 hl.2
  refine TQ.set h hW hI hN hl hx ⟨by omega, fun e => by have := c2 e; omega, fun e => absurd hL e, fun he => ⟨fun _ => ?_, fun e => absurd rfl e⟩⟩ (fun a v hne ⟨d1, d2, d3, d4⟩ => ⟨d1, fun e => by have := d2 e; omega, d3, fun he => ⟨fun e => absurd e hne, fun _ => d4 he⟩⟩)
  obtain ⟨e1, e2⟩ := c4 he
  have := c2 hL
  rw [hu, ← e1, Int.min_eq_right (by omega)]
/-- A place is passed. -/
theorem TQM.step (h : TQM E rs wd nm W Nm N xs L I K M) (g : gramV nm l rs) (hW : wd.length < W) (hI : I + L ≤ wd.length) (hN : nm ≤ Nm) (hK : K < rs.length) (hx : (I * W + (I + L)) * Nm + (rl rs K).1.toNat < N)
    (h2 : 0 ≤ (rl rs K).2.2.1) (h3 : I < M) (h4 : M < I + L) {u : Int} (hu : u = min 1000000001 (cl 0 W Nm xs I (I + L) (rl rs K).1 + cl 0 W Nm xs I M (rl rs K).2.1 * cl 0 W Nm xs M (I + L) (rl rs K).2.2.1)) :
    TQM E rs wd nm W Nm N (xs.set ((I * W + (I + L)) * Nm + (rl rs K).1.toNat) u) L I K (M + 1) := by
  have hl := gram_left g K hK; have hn := gram_node g hK h2
  have o1 := h.left (m := M) hI h3 h4 hn.1; have o2 := h.right (m := M) hI h3 h4 hn.2
  obtain ⟨c1, c2, c3, c4⟩ := h.so _ hl.1 hl.2
  have hp := Int.mul_nonneg o1.1 o2.1
  subst hu
  refine TQ.set h hW hI hN hl hx ⟨by omega, fun e => by omega, fun e => by omega, fun he => ⟨fun _ => ?_, fun e => absurd rfl e⟩⟩ (fun a v hne ⟨d1, d2, d3, d4⟩ => ⟨d1, d2, d3, fun he => ⟨fun e => absurd e hne, fun _ => (d4 he).2 hne⟩⟩)
  have e1 := (c4 he).1 rfl
  have e3 := (o1.2.2 he).1; have e4 := (o2.2.2 he).1
  rw [uM_succ h2 h3, e1, e3, e4]
  have := SK_nn (rs := rs) (wd := wd) (i := I) (j := I + L) (K := K) (a := (rl rs K).1); have := uM_nn (rs := rs) (wd := wd) (i := I) (j := I + L) (K := K) (M := M)
  have := Int.mul_nonneg (cnt_nn rs wd I M (rl rs K).2.1) (cnt_nn rs wd M (I + L) (rl rs K).2.2.1)
  omega
theorem uM_end (hM : I + L ≤ M ∨ (rl rs K).2.2.1 < 0) (hM2 : M ≤ I + L) : uM rs wd I (I + L) K M = rc rs wd I (I + L) K := by
  rcases Int.lt_or_le (rl rs K).2.2.1 0 with h | h
  · exact uM_leaf h
  · have : M = I + L := by omega
    subst this; exact uM_done h
theorem TQM.imp {E' : Prop} (h : TQM E rs wd nm W Nm N xs L I K M) (he : E' → E) : TQM E' rs wd nm W Nm N xs L I K M :=
  TQ.mono (TQ.weak h (fun i j a v hs => ⟨hs.1, hs.2.1, fun e => hs.2.2 (he e)⟩)) (fun a v _ _ hc => ⟨hc.1, hc.2.1, hc.2.2.1, fun e => hc.2.2.2 (he e)⟩)
/-- Rule K is done, and its number is small. -/
theorem TQM.close (h : TQM E rs wd nm W Nm N xs L I K M) (hM : I + L ≤ M ∨ (rl rs K).2.2.1 < 0) (hM2 : M ≤ I + L) (hs : E → cl 0 W Nm xs I (I + L) (rl rs K).1 ≤ 1000000000) : TQK E rs wd nm W Nm N xs L I (K + 1) := by
  have hu := uM_end (wd := wd) hM hM2
  refine ⟨h.n, h.ok, h.z, fun a h1 h2 => ?_⟩
  obtain ⟨c1, c2, c3, c4⟩ := h.so a h1 h2
  refine ⟨c1, fun e => by have := c2 e; omega, c3, fun he => ?_⟩
  obtain ⟨e1, e2⟩ := c4 he
  by_cases e : a = (rl rs K).1
  · have q1 := e1 e; have q2 := hs he
    rw [← e] at q2
    rw [SK_succ, if_pos e.symm, ← hu]
    omega
  · obtain ⟨q1, q2⟩ := e2 e
    rw [SK_succ, if_neg (fun h => e h.symm), Int.add_zero]; exact ⟨q1, q2⟩
/-- A great number is seen. -/
theorem TQM.bad (h : TQM E rs wd nm W Nm N xs L I K M) (he : E) (g : gramV nm l rs) (hL : 1 ≤ L) (hI : I + L ≤ wd.length) (hM2 : M ≤ I + L) (hK : K < rs.length) (hv : 1000000000 < cl 0 W Nm xs I (I + L) (rl rs K).1) : ¬ okT rs wd nm := fun ht => by
  have hl := gram_left g K hK
  obtain ⟨c1, c2, c3, c4⟩ := h.so _ hl.1 hl.2
  have e1 := (c4 he).1 rfl
  have := part_le (rs := rs) (wd := wd) (i := I) (j := I + L) (K := K) hK (by omega) hM2
  have := ht I (I + L) (by omega) hI _ hl.1 hl.2
  omega
theorem TQM.bad2 (h : TQM E rs wd nm W Nm N xs L I K M) (he : E) (g : gramV nm l rs) (hL : 1 ≤ L) (hI : I + L ≤ wd.length) (hK : K < rs.length) (h2 : 0 ≤ (rl rs K).2.2.1) (h3 : I < M) (h4 : M < I + L)
    (hv : 1000000000 < cl 0 W Nm xs I (I + L) (rl rs K).1 + cl 0 W Nm xs I M (rl rs K).2.1 * cl 0 W Nm xs M (I + L) (rl rs K).2.2.1) : ¬ okT rs wd nm := fun ht => by
  have hl := gram_left g K hK; have hn := gram_node g hK h2
  have o1 := h.left (m := M) hI h3 h4 hn.1; have o2 := h.right (m := M) hI h3 h4 hn.2
  obtain ⟨c1, c2, c3, c4⟩ := h.so _ hl.1 hl.2
  have e1 := (c4 he).1 rfl
  have e3 := (o1.2.2 he).1; have e4 := (o2.2.2 he).1
  have := part_le (rs := rs) (wd := wd) (i := I) (j := I + L) (K := K) (M := M + 1) hK (by omega) (by omega)
  rw [uM_succ h2 h3, ← e3, ← e4] at this
  have := ht I (I + L) (by omega) hI _ hl.1 hl.2
  omega
theorem TQM.range (h : TQM E rs wd nm W Nm N xs L I K M) (hK : K ≤ 32) {a : Int} (ha : 0 ≤ a ∧ a < nm) : 0 ≤ cl 0 W Nm xs I (I + L) a ∧ cl 0 W Nm xs I (I + L) a ≤ 1000000040 := by
  obtain ⟨c1, c2, c3, _⟩ := h.so a ha.1 ha.2
  by_cases e : L = 1
  · have := c2 e; omega
  · have := c3 e; omega
theorem TQK.range (h : TQK E rs wd nm W Nm N xs L I K) (hK : K ≤ 32) {a : Int} (ha : 0 ≤ a ∧ a < nm) : 0 ≤ cl 0 W Nm xs I (I + L) a ∧ cl 0 W Nm xs I (I + L) a ≤ 1000000040 := by
  obtain ⟨c1, c2, c3, _⟩ := h.so a ha.1 ha.2
  by_cases e : L = 1
  · have := c2 e; omega
  · have := c3 e; omega
theorem TQK.fin (h : TQK E rs wd nm W Nm N xs L I rs.length) (hr : rs.length ≤ 32) (hL : 1 ≤ L) : TDC E rs wd nm W Nm N xs L (I + 1) :=
  TQ.fin h (fun a v h1 h2 ⟨c1, c2, c3, c4⟩ => ⟨c1, by
    by_cases e : L = 1
    · have := c2 e; omega
    · have := c3 e; omega, fun he => by rw [cnt_eq (by omega)]; exact c4 he⟩)
theorem TDC.okT {I : Nat} (h : TDC E rs wd nm W Nm N xs (wd.length + 1) I) (he : E) : okT rs wd nm := fun i j h1 h2 a h3 h4 => by
  have := (h.at h1 h2 ⟨h3, h4⟩).2.2 he; omega
theorem TDC.val {I i j : Nat} {a : Int} (h : TDC E rs wd nm W Nm N xs (wd.length + 1) I) (he : E) (h1 : i < j) (h2 : j ≤ wd.length) (ha : 0 ≤ a ∧ a < nm) : cl 0 W Nm xs i j a = cnt rs wd i j a := ((h.at h1 h2 ha).2.2 he).1
theorem TQM.sub (h : TQM E rs wd nm W Nm N xs L I K M) (g : gramV nm l rs) (hI : I + L ≤ wd.length) (hK : K < rs.length) (h2 : 0 ≤ (rl rs K).2.2.1) (h3 : I < M) (h4 : M < I + L) :
    (0 ≤ cl 0 W Nm xs I M (rl rs K).2.1 ∧ cl 0 W Nm xs I M (rl rs K).2.1 ≤ 1000000040) ∧ (0 ≤ cl 0 W Nm xs M (I + L) (rl rs K).2.2.1 ∧ cl 0 W Nm xs M (I + L) (rl rs K).2.2.1 ≤ 1000000040) := by
  have hn := gram_node g hK h2
  have o1 := h.left (m := M) hI h3 h4 hn.1; have o2 := h.right (m := M) hI h3 h4 hn.2
  exact ⟨⟨o1.1, o1.2.1⟩, o2.1, o2.2.1⟩
theorem mul_bd {a b : Int} (ha : 0 ≤ a ∧ a ≤ 1000000040) (hb : 0 ≤ b ∧ b ≤ 1000000040) : 0 ≤ a * b ∧ a * b ≤ 1000000080000001600 := by
  refine ⟨Int.mul_nonneg ha.1 hb.1, ?_⟩
  have h1 := Int.mul_le_mul_of_nonneg_right ha.2 hb.1
  have h2 := Int.mul_le_mul_of_nonneg_left hb.2 (show (0 : Int) ≤ 1000000040 by omega)
  omega
end
theorem TDC.zeroF {E : Prop} {nm : Int} {rs : List R4} {wd : List Int} (h12 : wd.length ≤ 12) (hs : 1 ≤ nm ∧ nm ≤ 8) :
    TDC E rs wd nm (wd.length + 1) nm.toNat (((wd.length : Int) + 1) * (wd.length + 1) * nm).toNat (List.replicate (((wd.length : Int) + 1) * (wd.length + 1) * nm).toNat 0) 1 0 :=
  TD.zero (fun i j a h1 h2 h3 h4 => (ixC (x := i) (y := j) (n := wd.length) (by omega) h2 h12 hs ⟨h3, h4⟩).2.2.2.2)
theorem TDC.topF {E : Prop} {nm : Int} {rs : List R4} {wd : List Int} {ys : List Int} {I N : Nat} (h : TDC E rs wd nm (wd.length + 1) nm.toNat N ys (wd.length + 1) I) (he : E) (h12 : 1 ≤ wd.length ∧ wd.length ≤ 12) (hs : 1 ≤ nm ∧ nm ≤ 8) : ys.getD ((wd.length : Int) * nm).toNat 0 = cnt rs wd 0 wd.length 0 := by
  have o := h.val (i := 0) (j := wd.length) (a := 0) he (by omega) (by omega) (by omega)
  rw [(topIx h12.2 hs).2.2.2]
  exact o
open Classical in
noncomputable def canT (a0 a1 : Int) (rs : List R4) (xs : List Int) : Bool := canB a0 a1 rs xs && decide (okT rs xs a0)
theorem canT_n1 {a0 a1 : Int} {rs : List R4} {xs : List Int} (h : canB a0 a1 rs xs = false) : false = canT a0 a1 rs xs := by simp [canT, h]
theorem canT_n2 {a0 a1 : Int} {rs : List R4} {xs : List Int} (h : ¬ okT rs xs a0) : false = canT a0 a1 rs xs := by simp [canT, h]
theorem canT_y {a0 a1 : Int} {rs : List R4} {xs : List Int} (h : canB a0 a1 rs xs = true) (h2 : okT rs xs a0) : true = canT a0 a1 rs xs := by simp [canT, h, h2]
end Go.WX
