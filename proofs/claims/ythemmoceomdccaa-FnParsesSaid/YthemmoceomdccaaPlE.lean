/- Plain laws on the grammar of what one of two makes; no program. No condition. -/
import Derived.Test.YthemmoceomdccaaPlG
namespace Go.WX
open Go
/-- A rule with later names. -/
def laterR (by_ : Int) (r : R4) : R4 := if 0 ≤ r.2.2.1 then (r.1 + by_, r.2.1 + by_, r.2.2.1 + by_, r.2.2.2) else (r.1 + by_, r.2.1, -1, r.2.2.2)
theorem laterR_yes {q : Int} {r : R4} (h : 0 ≤ r.2.2.1) : laterR q r = (r.1 + q, r.2.1 + q, r.2.2.1 + q, r.2.2.2) := if_pos h
theorem laterR_no {q : Int} {r : R4} (h : ¬ 0 ≤ r.2.2.1) : laterR q r = (r.1 + q, r.2.1, -1, r.2.2.2) := if_neg h
abbrev valR (r : R4) : Value := .agg #[.int .i64 r.1, .int .i64 r.2.1, .int .i64 r.2.2.1, .int .i64 r.2.2.2]
theorem laterV_yes {a0 a1 a2 a3 q : Int} (h : 0 ≤ a2) : Value.agg #[.int .i64 (a0 + q), .int .i64 (a1 + q), .int .i64 (a2 + q), .int .i64 a3] = valR (laterR q (a0, a1, a2, a3)) := by rw [laterR_yes (r := (a0, a1, a2, a3)) h]
theorem laterV_no1 {a0 a1 a2 a3 q : Int} (h : a2 < 0) : Value.agg #[.int .i64 (a0 + q), .int .i64 a1, .int .i64 (-1), .int .i64 a3] = valR (laterR q (a0, a1, a2, a3)) := by rw [laterR_no (r := (a0, a1, a2, a3)) (show ¬ 0 ≤ a2 by omega)]
theorem laterV_no2 {a0 a1 a2 a3 q : Int} (h : a2 = -1) : Value.agg #[.int .i64 (a0 + q), .int .i64 a1, .int .i64 a2, .int .i64 a3] = valR (laterR q (a0, a1, a2, a3)) := by subst h; exact laterV_no1 (by decide)
theorem laterR_1 (q : Int) (r : R4) : (laterR q r).1 = r.1 + q := by unfold laterR; split <;> rfl
def addR (q : Int) (first : Bool) (r : R4) : List R4 := if first = true then (if r.1 = 0 then [setR0 0 (laterR q r)] else []) else [laterR q r]
def addL (q : Int) (first : Bool) (rs : List R4) : List R4 := rs.flatMap (addR q first)
theorem addL_zero (A : List R4) (q : Int) (first : Bool) (rs : List R4) : A = A ++ addL q first (rs.take 0) := by simp [addL]
theorem addL_take {q : Int} {first : Bool} {rs : List R4} {k : Nat} (h : k < rs.length) : addL q first (rs.take (k + 1)) = addL q first (rs.take k) ++ addR q first (rs.getD k (0, 0, 0, 0)) := by
  rw [take_succ h ((0, 0, 0, 0) : R4)]; simp [addL]
theorem addL_skip {A : List R4} {q : Int} {f : Bool} {rs : List R4} {k : Nat} (hf : f = true) (h : k < rs.length) (h1 : ¬ (rs.getD k (0, 0, 0, 0)).1 = 0) : A ++ addL q f (rs.take k) = A ++ addL q f (rs.take (k + 1)) := by
  subst hf; rw [addL_take h]; simp only [addR, if_true, if_neg h1, List.append_nil]
theorem addL_first {A : List R4} {q : Int} {f : Bool} {rs : List R4} {k : Nat} {z : R4} (hf : f = true) (h : k < rs.length) (h1 : (rs.getD k (0, 0, 0, 0)).1 = 0) (hz : z = setR0 0 (laterR q (rs.getD k (0, 0, 0, 0)))) : A ++ addL q f (rs.take k) ++ [z] = A ++ addL q f (rs.take (k + 1)) := by
  subst hf; rw [addL_take h, hz]; simp only [addR, if_true, if_pos h1, List.append_assoc]
theorem addL_all {A : List R4} {q : Int} {f : Bool} {rs : List R4} {k : Nat} {z : R4} (hf : f = false) (h : k < rs.length) (hz : z = laterR q (rs.getD k (0, 0, 0, 0))) : A ++ addL q f (rs.take k) ++ [z] = A ++ addL q f (rs.take (k + 1)) := by
  subst hf; rw [addL_take h, hz]; simp [addR]
theorem addL_done {A : List R4} {q : Int} {first : Bool} {rs : List R4} {k : Nat} (h : rs.length ≤ k) : A ++ addL q first (rs.take k) = A ++ addL q first rs := by rw [List.take_of_length_le h]
theorem addL_len (q : Int) (first : Bool) : ∀ rs : List R4, (addL q first rs).length ≤ rs.length
  | [] => by simp [addL]
  | r :: rs => by
    have ih := addL_len q first rs
    have e : addL q first (r :: rs) = addR q first r ++ addL q first rs := rfl
    have h1 : (addR q first r).length ≤ 1 := by unfold addR; split <;> (try split) <;> simp
    rw [e, List.length_append, List.length_cons]; omega
theorem addL_lenK (q : Int) (first : Bool) (rs : List R4) (k : Nat) : (addL q first (rs.take k)).length ≤ rs.length := by
  have h1 := addL_len q first (rs.take k); have h2 := List.length_take_le' k rs; omega
def mapL (q : Int) (rs : List R4) : List R4 := rs.map (laterR q)
theorem mapL_zero (A : List R4) (q : Int) (rs : List R4) : A = A ++ mapL q (rs.take 0) := by simp [mapL]
theorem mapL_put {A : List R4} {q : Int} {rs : List R4} {k : Nat} {z : R4} (h : k < rs.length) (hz : z = laterR q (rs.getD k (0, 0, 0, 0))) : A ++ mapL q (rs.take k) ++ [z] = A ++ mapL q (rs.take (k + 1)) := by
  rw [take_succ h ((0, 0, 0, 0) : R4), hz]; simp [mapL]
theorem mapL_done {A : List R4} {q : Int} {rs : List R4} {k : Nat} (h : rs.length ≤ k) : A ++ mapL q (rs.take k) = A ++ mapL q rs := by rw [List.take_of_length_le h]
theorem mapL_len (q : Int) (rs : List R4) : (mapL q rs).length = rs.length := by simp [mapL]
theorem mapL_lenK (q : Int) (rs : List R4) (k : Nat) : (mapL q (rs.take k)).length ≤ rs.length := by simp [mapL]; omega
/-- Those of the names of both beginnings, of the name 0. -/
def firstR (n : Int) (r : R4) : List R4 := if r.1 = 1 ∨ r.1 = 1 + n then [setR0 0 r] else []
def firstL (n : Int) (rs : List R4) : List R4 := rs.flatMap (firstR n)
theorem firstL_yes {n : Int} {rs : List R4} {k : Nat} {z : R4} (h : k < rs.length) (h1 : (rs.getD k (0, 0, 0, 0)).1 = 1 ∨ (rs.getD k (0, 0, 0, 0)).1 = 1 + n) (hz : z = setR0 0 (rs.getD k (0, 0, 0, 0))) : firstL n (rs.take k) ++ [z] = firstL n (rs.take (k + 1)) := by
  rw [take_succ h ((0, 0, 0, 0) : R4), hz]; simp only [firstL, List.flatMap_append, List.flatMap_cons, List.flatMap_nil, firstR, if_pos h1, List.append_nil]
theorem firstL_no {n : Int} {rs : List R4} {k : Nat} (h : k < rs.length) (h1 : ¬ ((rs.getD k (0, 0, 0, 0)).1 = 1 ∨ (rs.getD k (0, 0, 0, 0)).1 = 1 + n)) : firstL n (rs.take k) = firstL n (rs.take (k + 1)) := by
  rw [take_succ h ((0, 0, 0, 0) : R4)]; simp only [firstL, List.flatMap_append, List.flatMap_cons, List.flatMap_nil, firstR, if_neg h1, List.append_nil]
theorem firstL_len (n : Int) : ∀ rs : List R4, (firstL n rs).length ≤ rs.length
  | [] => by simp [firstL]
  | r :: rs => by
    have ih := firstL_len n rs
    have e : firstL n (r :: rs) = firstR n r ++ firstL n rs := rfl
    have h1 : (firstR n r).length ≤ 1 := by unfold firstR; split <;> simp
    rw [e, List.length_append, List.length_cons]; omega
theorem firstL_lenK (n : Int) (rs : List R4) (k : Nat) : (firstL n (rs.take k)).length ≤ rs.length := by
  have h1 := firstL_len n (rs.take k); have h2 := List.length_take_le' k rs; omega
def eithL (n : Int) (ra rb : List R4) : List R4 := addL 1 true ra ++ addL (1 + n) true rb ++ addL 1 false ra ++ addL (1 + n) false rb
theorem addL_false (q : Int) (rs : List R4) : addL q false rs = mapL q rs := by
  induction rs with
  | nil => rfl
  | cons r rs ih =>
    have e : addL q false (r :: rs) = addR q false r ++ addL q false rs := rfl
    rw [e, ih]; simp [addR, mapL]
theorem first_map {n q : Int} (hq : q = 1 ∨ q = 1 + n) : ∀ {rs : List R4}, (∀ r ∈ rs, (r.1 + q = 1 ∨ r.1 + q = 1 + n) ↔ r.1 = 0) → firstL n (mapL q rs) = addL q true rs
  | [], _ => rfl
  | r :: rs, h => by
    have ih := first_map hq (rs := rs) (fun x hx => h x (by simp [hx]))
    have e1 : firstL n (mapL q (r :: rs)) = firstR n (laterR q r) ++ firstL n (mapL q rs) := rfl
    have e2 : addL q true (r :: rs) = addR q true r ++ addL q true rs := rfl
    have hr := h r (by simp)
    rw [e1, e2, ih]
    congr 1
    unfold firstR addR
    rw [laterR_1]
    by_cases h0 : r.1 = 0
    · rw [if_pos (hr.2 h0), if_pos rfl, if_pos h0]
    · rw [if_neg (fun x => h0 (hr.1 x)), if_pos rfl, if_neg h0]
theorem gram_mem {n l : Int} {rs : List R4} (h : gramV n l rs) : ∀ r ∈ rs, okR n l r := fun r hr => by
  obtain ⟨i, hi, rfl⟩ := List.mem_iff_getElem.1 hr
  have := h.2.2.2 i hi
  simpa [List.getD_eq_getElem?_getD, hi] using this
theorem either_eq {n m l l' : Int} {ra rb : List R4} (ha : gramV n l ra) (hb : gramV m l' rb) : firstL n (mapL 1 ra ++ mapL (1 + n) rb) ++ (mapL 1 ra ++ mapL (1 + n) rb) = eithL n ra rb := by
  have h1 : firstL n (mapL 1 ra ++ mapL (1 + n) rb) = firstL n (mapL 1 ra) ++ firstL n (mapL (1 + n) rb) := by simp [firstL]
  rw [h1, first_map (.inl rfl) (fun r hr => by have := (gram_mem ha r hr).1; omega), first_map (.inr rfl) (fun r hr => by have := (gram_mem hb r hr).1; have := ha.1; omega)]
  unfold eithL; rw [addL_false, addL_false]; simp [List.append_assoc]
noncomputable def eithB (n l : Int) (ra : List R4) (m l' : Int) (rb : List R4) : Bool := gramB n l ra && gramB m l' rb && decide (l = l') && gramB (1 + n + m) l (eithL n ra rb)
theorem eithB_n1 {n l : Int} {ra : List R4} {m l' : Int} {rb : List R4} (h : ¬ gramV n l ra) : ¬ eithB n l ra m l' rb = true := by simp [eithB, gramB, h]
theorem eithB_n2 {n l : Int} {ra : List R4} {m l' : Int} {rb : List R4} (h : ¬ gramV m l' rb) : ¬ eithB n l ra m l' rb = true := by simp [eithB, gramB, h]
theorem eithB_n3 {n l : Int} {ra : List R4} {m l' : Int} {rb : List R4} (h : ¬ l = l') : ¬ eithB n l ra m l' rb = true := by simp [eithB, h]
theorem eithB_n4 {n l : Int} {ra : List R4} {m l' : Int} {rb : List R4} (h : ¬ gramV (1 + n + m) l (eithL n ra rb)) : ¬ eithB n l ra m l' rb = true := by
  have : gramB (1 + n + m) l (eithL n ra rb) = false := by simpa [gramB] using h
  simp [eithB, this]
theorem eithB_yes {n l : Int} {ra : List R4} {m l' : Int} {rb : List R4} (h1 : gramV n l ra) (h2 : gramV m l' rb) (h3 : l = l') (h4 : gramV (1 + n + m) l (eithL n ra rb)) : eithB n l ra m l' rb = true := by
  subst h3; simp [eithB, gramB, h1, h2, h4]
theorem eith_len (n l : Int) (ra : List R4) (m l' : Int) (rb : List R4) : (onT (eithB n l ra m l' rb) (eithL n ra rb)).length ≤ 32 := by
  by_cases h : eithB n l ra m l' rb = true
  · rw [onT_yes h]
    simp only [eithB, gramB, Bool.and_eq_true, decide_eq_true_eq] at h
    have := h.2.2.2.1; omega
  · rw [onT_no h]; simp
end Go.WX
