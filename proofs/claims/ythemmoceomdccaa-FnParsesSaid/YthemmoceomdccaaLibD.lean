/- Laws of appends, slice literals, calls, and of regions that draw their order. No condition. -/
import Derived.Test.YthemmoceomdccaaLibC
namespace Go.WX
open Go

section
variable {P : Program} {n : Nat} {σ : Fr} {w : World} {x y : Operand} {v xv : Value} {d : Nat} {ty : TypeId} {pos : String} {af : Array Edge} {gd : Option (Nat × Bool)} {t e : TypeId} {k m s yy : Nat} {p : Addr} {cs : List Value} {K : Fr → World → Prop}

/-- What may be appended. -/
def Src (w : World) (s : Nat) (xv : Value) (news : List Value) : Prop :=
  ∃ l, news.length = l * s ∧ ((xv = .slice none 0 0 ∧ l = 0) ∨ ∃ a c, xv = .slice (some a) l c ∧ ∀ j u, news[j]? = some u → w.cell? (a.add j) = some u) ∧ ∀ u ∈ news, u.oneCell' = true

theorem Ow.src {og : Option Nat} {news : List Value} (h : Ow w og s xv news) (h1 : ∀ u ∈ news, u.oneCell' = true) : Src w s xv news := by
  have h' := h
  rcases h with ⟨_, rfl, rfl⟩ | ⟨g, l, cap, cur, e, _, rfl, _, h4, _⟩
  · exact ⟨0, by simp, .inl ⟨rfl, rfl⟩, h1⟩
  · exact ⟨l, h4, .inr ⟨_, _, rfl, fun j u hj => by rw [add_padd rfl]; exact (h'.cellsAt rfl).2 j u hj⟩, h1⟩

theorem Rd.src {α : Type} {f : α → Value} {xs : List α} (h : Rd (.sc f) w xv xs) (h1 : ∀ x, (f x).oneCell' = true) : Src w 1 xv (xs.map f) := by
  refine ⟨xs.length, by simp, ?_, fun u hu => ?_⟩
  · rcases h.2 with ⟨rfl, rfl⟩ | ⟨a, cap, h2, h3, h5⟩
    · exact .inl ⟨rfl, rfl⟩
    · refine .inr ⟨a, cap, h2, fun j u hj => ?_⟩
      rw [List.getElem?_map] at hj
      cases hx : xs[j]? with
      | none => simp [hx] at hj
      | some z =>
        simp [hx] at hj; subst hj
        obtain ⟨h4, cs, k1, k2⟩ := h5 j z hx
        simp only [Enc.sc] at k1 k2
        subst k1
        have := k2.2 0 (f z) rfl
        rw [add_padd h4]
        simpa [padd_padd] using this
  · obtain ⟨z, _, rfl⟩ := List.mem_map.1 hu
    exact h1 z

/-- 'append(s, x...)'. -/
theorem OpK.append {og : Option Nat} {news : List Value} {z : Value} (hb : Nat.blt d n = true) (ht : slOf P t = some (e, s, yy)) (hz : zvOf P e = some z) (hzs : z.cells.size = s) (hs : Nat.blt 0 s = true)
    (hx : ev σ x = some v) (ho : Ow w og s v cs) (hy : ev σ y = some xv) (hsrc : Src w s xv news)
    (hN : (cs.length + news.length) * yy ≤ 140737488355328 ∧ cs.length + news.length ≤ 140737488355328)
    (hk : ∀ v' og' w', Upd og w w' → Ow w' og' s v' (cs ++ news) → (og' = og ∨ ∃ g, og' = some g ∧ w.heap.size ≤ g) → K ((d, v') :: σ) w') :
    OpK P n ⟨some d, .call ⟨.builtin .append, #[x, y], #[t, t]⟩, ty, pos, af, gd⟩ σ w K := by
  obtain ⟨h1, i, h2, h3, h4⟩ := slOf_spec ht
  have hz' : i.zero = some z := by simpa [zvOf, h2] using hz
  subst h3; subst h4
  obtain ⟨l, hl, hxx, h1c⟩ := hsrc
  obtain ⟨v', w', og', k1, k2, k3, k4⟩ := run_append_ow (P := P) (ty := ty) h1 h2 hz' hzs (by simpa using hs) ho hl hxx h1c hN.1 hN.2
  exact .val rfl hb (fun a ha => by simp [execOp, resolve, invoke, builtin, ha.eval hx, ha.eval hy, k1]) (hk v' og' w' k3 k2 k4)

/-- The cells of a slice literal, all of whose elements are written out. -/
theorem fill_all (s : Nat) : ∀ (vs : List Value) (css : List (List Value)) (k : Nat) (cells : Array Value), vs.map (·.cells) = css.map List.toArray → (∀ c ∈ css, c.length = s) → cells.size = (k + vs.length) * s →
    Instr.fill (fun i => some (i * s, s)) cells (vs.zipIdx k |>.map fun (v, i) => (i, v)) = some (cells.toList.take (k * s) ++ css.flatten).toArray
  | [], css, k, cells, h1, _, h3 => by
    have : css = [] := by simpa using h1.symm
    subst this
    simp at h3
    simp only [List.zipIdx_nil, List.map_nil, Instr.fill, List.flatten_nil, List.append_nil]
    rw [← h3, ← Array.length_toList, List.take_length]
  | v :: vs, css, k, cells, h1, h2, h3 => by
    match css, h1 with
    | c :: css, h1 =>
      simp only [List.map_cons, List.cons.injEq] at h1
      have hc : c.length = s := h2 c (by simp)
      have hsz : v.cells.size = s := by rw [h1.1]; simpa using hc
      simp only [List.zipIdx_cons, List.map_cons, Instr.fill]
      have hle : k * s + s ≤ cells.size := by
        rw [h3]; simp only [List.length_cons]
        have : k + (vs.length + 1) = (k + 1) + vs.length := by omega
        rw [this, Nat.add_mul, Nat.add_mul]; omega
      rw [if_neg (by simp [hsz]; omega)]
      have hfold : ∀ (l : List Value) (j : Nat) (cur : Array Value), k * s + j + l.length ≤ cur.size → (l.zipIdx j).foldl (fun cs (x : Value × Nat) => cs.setIfInBounds (k * s + x.2) x.1) cur = (cur.toList.take (k * s + j) ++ l ++ cur.toList.drop (k * s + j + l.length)).toArray := by
        intro l
        induction l with
        | nil => intro j cur _; simp
        | cons a l ih =>
          intro j cur hl
          simp only [List.length_cons] at hl
          simp only [List.zipIdx_cons, List.foldl_cons]
          rw [ih (j + 1) _ (by simp; omega)]
          congr 1
          simp only [Array.toList_setIfInBounds, List.length_cons]
          have e1 : List.take (k * s + (j + 1)) (cur.toList.set (k * s + j) a) = List.take (k * s + j) cur.toList ++ [a] := by
            have : k * s + (j + 1) = (k * s + j) + 1 := by omega
            rw [this, List.take_succ_eq_append_getElem (by simp; omega), List.take_set_of_le (Nat.le_refl _)]
            simp
          have e2 : List.drop (k * s + (j + 1) + l.length) (cur.toList.set (k * s + j) a) = List.drop (k * s + j + (l.length + 1)) cur.toList := by
            rw [List.drop_set_of_lt (by omega)]
            congr 1; omega
          rw [e1, e2]; simp
      have hcl : v.cells.zipIdx.foldl (fun cs (x : Value × Nat) => cs.setIfInBounds (k * s + x.2) x.1) cells = (cells.toList.take (k * s) ++ c ++ cells.toList.drop (k * s + s)).toArray := by
        rw [h1.1]
        have := hfold c 0 cells (by simpa [hc] using hle)
        simp only [Nat.add_zero, hc] at this
        rw [← this]
        simp
      rw [hcl]
      have ih := fill_all s vs css (k + 1) (cells.toList.take (k * s) ++ c ++ cells.toList.drop (k * s + s)).toArray h1.2 (fun c hc => h2 c (by simp [hc])) (by
        simp only [List.size_toArray, List.length_append, List.length_take, List.length_drop, Array.length_toList]
        have : (k + 1 + vs.length) * s = (k + (vs.length + 1)) * s := by congr 1; omega
        rw [this]
        simp only [List.length_cons] at h3
        omega)
      rw [ih]
      congr 2
      have : (k + 1) * s = k * s + s := by rw [Nat.add_mul]; omega
      rw [this, List.flatten_cons, ← List.append_assoc]
      congr 1
      have hlen : (List.take (k * s) cells.toList ++ c).length = k * s + s := by
        simp [hc]; omega
      simp only [List.append_assoc]
      rw [← List.append_assoc, ← hlen]
      exact List.take_left

/-- '[]T{x, y, ..}': all elements written out. -/
theorem OpK.buildSlice {xs : List Operand} {vs : List Value} {css : List (List Value)} {l : Nat} {parts : Array (Nat × Operand)} (hb : Nat.blt d n = true) (ht : slOf P t = some (e, s, yy)) (hp : parts.toList = xs.zipIdx.map fun (x, i) => (i, x)) (hl : xs.length = l)
    {z : Value} (hz : zvOf P e = some z) (hx : evs σ xs = some vs) (hv : vs.map (·.cells) = css.map List.toArray) (hs : ∀ c ∈ css, c.length = s) (hbig : Nat.ble (l * s) 1000 = true) (hs0 : Nat.blt 0 s = true)
    (hk : ∀ v g w', Ext w w' → Ow w' (some g) s v css.flatten → w.heap.size ≤ g → K ((d, v) :: σ) w') : OpK P n ⟨some d, .buildSlice t l parts, ty, pos, af, gd⟩ σ w K := by
  obtain ⟨h1, i, h2, h3, h4⟩ := slOf_spec ht
  have hbig : l * s ≤ 1000 := by simpa using hbig
  have hvl : vs.length = l := by
    have : ∀ (xs : List Operand) (vs : List Value), evs σ xs = some vs → vs.length = xs.length := by
      intro xs
      induction xs with
      | nil => intro vs h; simp [evs] at h; simp [← h]
      | cons a r ih =>
        intro vs h
        simp only [evs] at h
        split at h
        · rename_i v vs' _ hr
          simp at h; subst h; simp [ih _ hr]
        · simp at h
    rw [this _ _ hx, hl]
  have hcl : css.flatten.length = l * s := by
    have h5 : css.length = l := by have := congrArg List.length hv; simpa [hvl] using this.symm
    have : ∀ (css : List (List Value)), (∀ c ∈ css, c.length = s) → css.flatten.length = css.length * s := by
      intro css
      induction css with
      | nil => intro _; simp
      | cons c r ih => intro h; rw [List.flatten_cons, List.length_append, h c (by simp), ih (fun c hc => h c (by simp [hc])), List.length_cons, Nat.add_mul]; omega
    rw [this css hs, h5]
  refine .val rfl hb (w' := w.alloc (.cells css.flatten.toArray e)) (fun a ha => ?_) (hk _ _ _ (Ext.alloc _ _) (Ow.new w _ e l s hcl ?_) (Nat.le_refl _))
  · have hparts : (parts.map fun (i, x) => (i, a.eval x)).toList = vs.zipIdx.map fun (v, i) => (i, v) := by
      have := ha.evals hx
      rw [Array.toList_map, hp, ← this]
      simp [List.zipIdx_map, Function.comp_def]
    simp only [execOp, Instr.buildSlice, Sem.run_bind, run_underlying h1, Result.andThen_ok, sizeOf, typeInfo, Sem.run_pure, run_program, h2, h3]
    have hnb : ¬ (l * s > 2 ^ 24) := by omega
    rw [if_neg hnb, hparts]
    have hfin : ∀ cells : Array Value, cells.size = l * s → Instr.fill (fun i => some (i * s, s)) cells (vs.zipIdx.map fun (v, i) => (i, v)) = some css.flatten.toArray := fun cells hc => by
      have := fill_all s vs css 0 cells hv hs (by rw [hc, hvl]; simp)
      simpa using this
    by_cases h0 : l * s = 0
    · simp [h0, hfin, newRow, Array.range_zero']
    · have hz' : i.zero = some z := by simpa [zvOf, h2] using hz
      simp [h0, zeroValue, typeInfo, h2, hz', hfin, newRow]
  · have : l * s ≤ 1000 := hbig
    have h0 : 0 < s := by simpa using hs0
    have : l * 1 ≤ l * s := Nat.mul_le_mul_left _ (by omega)
    simp only [maxLen]; omega
end
end Go.WX
