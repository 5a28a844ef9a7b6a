/- Lists of lists that are marked; owned lists of structs of four lists. No condition. -/
import Derived.Test.YthemmoceomdccaaLibT
import Derived.Test.YthemmoceomdccaaPlA
namespace Go.WX
open Go

/-- All numbers of all inner lists, one after another. -/
def marksS : Int → List (List Int) → List (List Int)
  | _, [] => []
  | k, x :: r => marks k x.length :: marksS (k + x.length) r
theorem marksS_len : ∀ (k : Int) (xss : List (List Int)), (marksS k xss).length = xss.length
  | _, [] => rfl
  | k, x :: r => by simp [marksS, marksS_len]
theorem sumL_cons (x : List Int) (r : List (List Int)) : sumL (x :: r) = x.length + sumL r := by simp [sumL]
@[simp] theorem sumL_marksS : ∀ (k : Int) (xss : List (List Int)), sumL (marksS k xss) = sumL xss
  | _, [] => rfl
  | k, x :: r => by simp [marksS, sumL_cons, sumL_marksS]
@[simp] theorem marksS_idem : ∀ (k : Int) (xss : List (List Int)), marksS k (marksS k xss) = marksS k xss
  | _, [] => rfl
  | k, x :: r => by simp [marksS, marksS_idem]
theorem marksS_app : ∀ (k : Int) (a b : List (List Int)), marksS k (a ++ b) = marksS k a ++ marksS (k + sumL a) b
  | k, [], b => by simp [marksS, sumL]
  | k, x :: r, b => by
    have : k + (x.length : Int) + sumL r = k + sumL (x :: r) := by rw [sumL_cons]; omega
    simp [marksS, marksS_app, this]
theorem marksS_get : ∀ (k : Int) (xss : List (List Int)) (j : Nat), j < xss.length → (marksS k xss).getD j [] = marks (k + sumL (xss.take j)) (xss.getD j []).length
  | k, [], j, h => by simp at h
  | k, x :: r, 0, h => by simp [marksS, sumL]
  | k, x :: r, j + 1, h => by
    have := marksS_get (k + x.length) r j (by simpa using h)
    simp only [marksS, List.getD_cons_succ, List.take_succ_cons, sumL_cons]
    rw [this]; congr 1; omega
theorem marksS_bad {k : Int} {xss : List (List Int)} {j : Nat} (h : j < xss.length) (hn : ¬ xss.getD j [] = marks (k + sumL (xss.take j)) (xss.getD j []).length) : ¬ xss = marksS k xss := fun e => by
  have := marksS_get k xss j h
  rw [← e] at this; exact hn this
theorem marksS_step {k : Int} {xss : List (List Int)} {j : Nat} (h : j < xss.length) (he : xss.take j = marksS k (xss.take j)) (hn : xss.getD j [] = marks (k + sumL (xss.take j)) (xss.getD j []).length) : xss.take (j + 1) = marksS k (xss.take (j + 1)) := by
  rw [take_succ h ([] : List Int), marksS_app, ← he]
  simp only [marksS]
  rw [← hn]
/-- The first j lists are marked. -/
def mixS (k : Int) (xss : List (List Int)) (j : Nat) : List (List Int) := marksS k (xss.take j) ++ xss.drop j
theorem mixS_len (k : Int) (xss : List (List Int)) (j : Nat) (hj : j ≤ xss.length) : (mixS k xss j).length = xss.length := by
  simp [mixS, marksS_len]; omega
theorem mixS_zero (k : Int) (xss : List (List Int)) : xss = mixS k xss 0 := by simp [mixS, marksS]
theorem mixS_done {k : Int} {xss : List (List Int)} {j : Nat} (h : xss.length ≤ j) : mixS k xss j = marksS k xss := by
  simp [mixS, List.take_of_length_le h, List.drop_eq_nil_of_le h]
theorem mixS_get {k : Int} {xss : List (List Int)} {j : Nat} (h : j < xss.length) : (mixS k xss j).getD j [] = xss.getD j [] := by
  have hl : (marksS k (xss.take j)).length = j := by rw [marksS_len, List.length_take]; omega
  unfold mixS
  rw [getD_app2 (by omega), hl, Nat.sub_self]
  simp [List.getD_eq_getElem?_getD]
theorem mixS_set {k : Int} {xss : List (List Int)} {j : Nat} (h : j < xss.length) : (mixS k xss j).set j (marks (k + sumL (xss.take j)) (xss.getD j []).length) = mixS k xss (j + 1) := by
  have hl : (marksS k (xss.take j)).length = j := by rw [marksS_len, List.length_take]; omega
  unfold mixS
  rw [take_succ h ([] : List Int), marksS_app, drop_cons h ([] : List Int), List.set_append_right _ _ (by omega), hl, Nat.sub_self]
  simp [marksS]
theorem sumT {xss : List (List Int)} {j : Nat} (h : j < xss.length) : sumL (xss.take (j + 1)) = sumL (xss.take j) + ((xss.getD j []).length : Int) := sumL_succ h
section
variable {w w' : World} {os : List (Option Nat)} {vs : List Value} {xss : List (List Int)}
theorem Inn.set (h : Inn w os vs xss) {j : Nat} (hj : j < xss.length) (u : UpdL [os.getD j none] w w') {ys : List Int} (ho : Osl VI w' (os.getD j none) (vs.getD j (.slice none 0 0)) ys) : Inn w' os vs (xss.set j ys) := by
  refine ⟨by simp [h.lv], by simp [h.lo], fun i hi => ?_, h.pw⟩
  have hi2 : i < xss.length := by simpa using hi
  by_cases e : i = j
  · subst e
    have : (xss.set i ys).getD i [] = ys := by simp [List.getD_eq_getElem?_getD, hi2]
    rw [this]; exact ho
  · have : (xss.set j ys).getD i [] = xss.getD i [] := by simp [List.getD_eq_getElem?_getD, List.getElem?_set_ne (Ne.symm e)]
    rw [this]
    refine (h.get i hi2).loop u ⟨?_, trivial⟩
    rcases Nat.lt_or_gt_of_ne e with q | q
    · exact h.pw i j q (by rw [h.lo]; exact hj)
    · exact (h.pw j i q (by rw [h.lo]; exact hi2)).symm
theorem UpdL.weak {bad bad' : List (Option Nat)} (h : UpdL bad w w') (hs : ∀ o ∈ bad, o ∈ bad') : UpdL bad' w w' := ⟨h.os, h.tape, h.output, h.size, fun k hk hn => h.block k hk (fun hm => hn (hs _ hm))⟩
/-- Marking one of the lists, out of the contract of marking a list. -/
theorem markIn {P : Program} {f : Nat} (con : ∀ {w : World} {va : Value} {og : Option Nat} {xs : List Int} {k : Int}, Osl VI w og va xs → 0 ≤ k ∧ k + xs.length ≤ 9223372036854775807 →
      Calls P f #[va, .int .i64 k] w (Ret1 (fun v w' => v = .int .i64 (k + xs.length) ∧ UpdL [og] w w' ∧ Osl VI w' og va (marks k xs.length))))
    (h : Inn w os vs xss) {j : Nat} (hj : j < xss.length) {k : Int} (hk : 0 ≤ k ∧ k + (xss.getD j []).length ≤ 9223372036854775807) :
    Calls P f #[vs.getD j (.slice none 0 0), .int .i64 k] w (Ret1 (fun v w' => v = .int .i64 (k + (xss.getD j []).length) ∧ UpdL os w w' ∧ Inn w' os vs (xss.set j (marks k (xss.getD j []).length)))) :=
  (con (h.get j hj) hk).mono fun e w1 he => by
    cases e with
    | returned v => exact ⟨he.1, he.2.1.weak (fun o ho => by rw [List.mem_singleton] at ho; subst ho; exact getD_mem (by rw [h.lo]; exact hj)), h.set hj he.2.1 he.2.2⟩
    | panicked c => exact he.elim
    | outgrown => exact he.elim
end

/-! ### Lists of structs of four lists -/
abbrev SH : Type := Option Addr × Nat × Nat
def vSH (s : SH) : Value := .slice s.1 s.2.1 s.2.2
def shOf : Value → SH
  | .slice o l c => (o, l, c)
  | _ => (none, 0, 0)
theorem shOf_of {α : Type} {E : Enc α} {w : World} {v : Value} {xs : List α} (h : Rd E w v xs) : vSH (shOf v) = v := by obtain ⟨o, c, rfl, _⟩ := h.shape; rfl
abbrev H4 : Type := SH × SH × SH × SH
def gH4 (q : H4) : List Value := [vSH q.1, vSH q.2.1, vSH q.2.2.1, vSH q.2.2.2]
abbrev nH4 : H4 := ((none, 0, 0), (none, 0, 0), (none, 0, 0), (none, 0, 0))
theorem gH4_ok : Gn 4 gH4 := ⟨by decide, fun x => rfl, fun x u hu => by
  simp only [gH4, List.mem_cons, List.not_mem_nil, or_false] at hu
  rcases hu with rfl | rfl | rfl | rfl <;> rfl⟩
theorem gH4_of {α : Type} {E : Enc α} {w : World} {v0 v1 v2 v3 : Value} {x0 x1 x2 x3 : List α} (h0 : Rd E w v0 x0) (h1 : Rd E w v1 x1) (h2 : Rd E w v2 x2) (h3 : Rd E w v3 x3) : gH4 (shOf v0, shOf v1, shOf v2, shOf v3) = [v0, v1, v2, v3] := by
  simp only [gH4, shOf_of h0, shOf_of h1, shOf_of h2, shOf_of h3]
theorem gH4_agg {α : Type} {E : Enc α} {w : World} {v0 v1 v2 v3 : Value} {x0 x1 x2 x3 : List α} (h0 : Rd E w v0 x0) (h1 : Rd E w v1 x1) (h2 : Rd E w v2 x2) (h3 : Rd E w v3 x3) : Value.agg #[v0, v1, v2, v3] = .agg (gH4 (shOf v0, shOf v1, shOf v2, shOf v3)).toArray := by
  rw [gH4_of h0 h1 h2 h3]
def gC4 (c : C4) : List (List Int) := [c.1, c.2.1, c.2.2.1, c.2.2.2]
theorem flatten_get {β : Type} {s : Nat} : ∀ (l : List (List β)) (i j : Nat) (c : List β), (∀ c ∈ l, c.length = s) → l[i]? = some c → j < s → l.flatten[i * s + j]? = c[j]?
  | [], i, j, c, _, h1, _ => by simp at h1
  | a :: r, 0, j, c, h1, h2, h3 => by
    have ha := h1 a (by simp)
    simp at h2; subst h2; rw [List.flatten_cons, Nat.zero_mul, Nat.zero_add, List.getElem?_append_left (by omega)]
  | a :: r, i + 1, j, c, h1, h2, h3 => by
    have ha := h1 a (by simp)
    have e : (i + 1) * s + j = s + (i * s + j) := by rw [Nat.add_mul]; omega
    rw [List.flatten_cons, e, List.getElem?_append_right (by omega), ha, show s + (i * s + j) - s = i * s + j from by omega]
    exact flatten_get r i j c (fun c hc => h1 c (by simp [hc])) (by simpa using h2) h3
theorem flatC_len : ∀ css : List C4, (css.flatMap gC4).length = css.length * 4
  | [] => rfl
  | c :: r => by rw [List.flatMap_cons, List.length_append, flatC_len r, List.length_cons]; show 4 + _ = _; omega
theorem flatC_get {css : List C4} {i j : Nat} (hi : i < css.length) (hj : j < 4) : (css.flatMap gC4).getD (i * 4 + j) [] = (gC4 (css.getD i d4)).getD j [] := by
  have h := flatten_get (s := 4) (css.map gC4) i j (gC4 (css.getD i d4)) (fun c hc => by obtain ⟨x, _, rfl⟩ := List.mem_map.1 hc; rfl) (by simp [List.getD_eq_getElem?_getD, hi]) hj
  rw [List.flatMap_def, List.getD_eq_getElem?_getD, h, ← List.getD_eq_getElem?_getD]
theorem flatH_get {qs : List H4} {i j : Nat} (hi : i < qs.length) (hj : j < 4) : (qs.flatMap gH4).getD (i * 4 + j) (.slice none 0 0) = (gH4 (qs.getD i nH4)).getD j (.slice none 0 0) := by
  have h := flatten_get (s := 4) (qs.map gH4) i j (gH4 (qs.getD i nH4)) (fun c hc => by obtain ⟨x, _, rfl⟩ := List.mem_map.1 hc; rfl) (by simp [List.getD_eq_getElem?_getD, hi]) hj
  rw [List.flatMap_def, List.getD_eq_getElem?_getD, h, ← List.getD_eq_getElem?_getD]
theorem flatH_len : ∀ qs : List H4, (qs.flatMap gH4).length = qs.length * 4
  | [] => rfl
  | c :: r => by rw [List.flatMap_cons, List.length_append, flatH_len r, List.length_cons]; show 4 + _ = _; omega
/-- An owned list of changes reads as one. -/
theorem rdCh {w : World} {og : Option Nat} {v : Value} {qs : List H4} {os : List (Option Nat)} {css : List C4} (h : Osn 4 gH4 w og v qs) (k : Inn w os (qs.flatMap gH4) (css.flatMap gC4)) : Rd ECh w v css := by
  have hl : qs.length = css.length := by have := k.lv; rw [flatH_len, flatC_len] at this; omega
  have h2 : Ow w og 4 v (qs.map gH4).flatten := by rw [← List.flatMap_def]; exact h.2
  refine rdOw (E := ECh) h2 (by simpa using hl) (fun j c x hj hx => ?_) (by decide)
  obtain ⟨q, hq, rfl⟩ : ∃ q, qs[j]? = some q ∧ gH4 q = c := by
    rw [List.getElem?_map] at hj
    cases hq : qs[j]? with
    | none => rw [hq] at hj; cases hj
    | some q => rw [hq] at hj; exact ⟨q, rfl, by simpa using hj⟩
  have hjl : j < css.length := (List.getElem?_eq_some_iff.1 hx).1
  have eq : qs.getD j nH4 = q := by rw [List.getD_eq_getElem?_getD, hq]; rfl
  have ex : css.getD j d4 = x := by rw [List.getD_eq_getElem?_getD, hx]; rfl
  have r : ∀ i, i < 4 → Rd EI w ((gH4 q).getD i (.slice none 0 0)) ((gC4 x).getD i []) := fun i hi => by
    have := k.rd (j := j * 4 + i) (by rw [flatC_len]; omega)
    rw [flatC_get hjl hi, flatH_get (by omega) hi, eq, ex] at this; exact this
  exact ECh.mk (r 0 (by decide)) (r 1 (by decide)) (r 2 (by decide)) (r 3 (by decide))
/-- How many letters a list of changes has. -/
def sumC (css : List C4) : Int := sumL (css.flatMap gC4)
theorem sumL_c4 (c : C4) (r : List (List Int)) : sumL (gC4 c ++ r) = c.1.length + c.2.1.length + c.2.2.1.length + c.2.2.2.length + sumL r := by
  simp only [gC4, List.cons_append, List.nil_append, sumL_cons]; omega
theorem sumC_succ {css : List C4} {k : Nat} (h : k < css.length) : sumC (css.take (k + 1)) = sumC (css.take k) + ((css.getD k d4).1.length + (css.getD k d4).2.1.length + (css.getD k d4).2.2.1.length + (css.getD k d4).2.2.2.length) := by
  unfold sumC
  rw [take_succ h d4, List.flatMap_append, sumL_app]
  have := sumL_c4 (css.getD k d4) []
  simp only [List.append_nil] at this
  rw [List.flatMap_cons, List.flatMap_nil, List.append_nil, this]
  simp [sumL]
theorem sumC_nn (css : List C4) : 0 ≤ sumC css := sumL_nn _
theorem sumC_take (css : List C4) (k : Nat) : sumC (css.take k) ≤ sumC css := by
  have h := congrArg sumC (List.take_append_drop k css)
  unfold sumC at h
  rw [List.flatMap_append, sumL_app] at h
  have := sumL_nn ((css.drop k).flatMap gC4)
  unfold sumC; omega
theorem sumC_get {css : List C4} {k : Nat} (h : k < css.length) : ((css.getD k d4).1.length + (css.getD k d4).2.1.length + (css.getD k d4).2.2.1.length + (css.getD k d4).2.2.2.length : Int) ≤ sumC css := by
  have h1 := sumC_succ h; have h2 := sumC_take css (k + 1); have h3 := sumC_nn (css.take k); omega
theorem c4_ext {a b : C4} (h : a.1 = b.1 ∧ a.2.1 = b.2.1 ∧ a.2.2.1 = b.2.2.1 ∧ a.2.2.2 = b.2.2.2) : a = b := by
  obtain ⟨a0, a1, a2, a3⟩ := a; obtain ⟨b0, b1, b2, b3⟩ := b
  simp only at h
  obtain ⟨rfl, rfl, rfl, rfl⟩ := h; rfl
theorem c4_no {a : C4} (h : ¬ (a.1 = a.1 ∧ a.2.1 = a.2.1 ∧ a.2.2.1 = a.2.2.1 ∧ a.2.2.2 = a.2.2.2)) : False := h ⟨rfl, rfl, rfl, rfl⟩
theorem flatC_put {css : List C4} {k : Nat} (h : k < css.length) {l : List (List Int)} (e : l = (css.take k).flatMap gC4) : l ++ [(css.getD k d4).1] ++ [(css.getD k d4).2.1] ++ [(css.getD k d4).2.2.1] ++ [(css.getD k d4).2.2.2] = (css.take (k + 1)).flatMap gC4 := by
  subst e
  rw [take_succ h d4, List.flatMap_append, List.flatMap_cons, List.flatMap_nil, List.append_nil]
  simp [gC4]
theorem flatH_put {qs : List H4} {l : List Value} {a b c d : Value} {α : Type} {E : Enc α} {w : World} {x0 x1 x2 x3 : List α} (h0 : Rd E w a x0) (h1 : Rd E w b x1) (h2 : Rd E w c x2) (h3 : Rd E w d x3) (e : l = qs.flatMap gH4) : l ++ [a] ++ [b] ++ [c] ++ [d] = (qs ++ [(shOf a, shOf b, shOf c, shOf d)]).flatMap gH4 := by
  subst e
  rw [List.flatMap_append, List.flatMap_cons, List.flatMap_nil, List.append_nil, gH4_of h0 h1 h2 h3]
  simp
theorem fill_setH {qs : List H4} {n k : Nat} {d v : H4} (h : qs.length = k) (hk : k < n) : (qs ++ List.replicate (n - k) d).set k v = (qs ++ [v]) ++ List.replicate (n - (k + 1)) d := by
  have : n - k = (n - (k + 1)) + 1 := by omega
  rw [this, List.replicate_succ, List.set_append_right _ _ (by omega)]
  have e : k - qs.length = 0 := by omega
  rw [e]; simp
theorem innVE {w : World} {os : List (Option Nat)} {vs vs' : List Value} {xss yss : List (List Int)} (h : Inn w os vs xss) (e : vs = vs') (e2 : xss = yss) : Inn w os vs' yss := e ▸ e2 ▸ h
theorem sumL_get4 {css : List C4} {i j : Nat} (hi : i < css.length) (hj : j < 4) : i * 4 + j < (css.flatMap gC4).length := by rw [flatC_len]; omega
end Go.WX
