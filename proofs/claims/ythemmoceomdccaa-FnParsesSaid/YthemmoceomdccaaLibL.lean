/- Slices whose elements take up several cells; structs of four numbers. No condition. -/
import Derived.Test.YthemmoceomdccaaLibJ
import Derived.Laws.StructEq
namespace Go.WX
open Go

/-- Each thing takes up s cells. -/
structure Gn {α : Type} (s : Nat) (g : α → List Value) : Prop where
  pos : 0 < s
  len : ∀ x, (g x).length = s
  one : ∀ x, ∀ u ∈ g x, u.oneCell' = true

def EG {α : Type} (s : Nat) (g : α → List Value) (h : Gn s g) : Enc α := ⟨s, fun _ x cs => cs = g x, fun e => by rw [e, h.len], fun e _ => e⟩

/-- An owned slice of such things. -/
def Osn {α : Type} (s : Nat) (g : α → List Value) (w : World) (og : Option Nat) (v : Value) (xs : List α) : Prop := Gn s g ∧ Ow w og s v (xs.flatMap g)

theorem flat_len {α : Type} {s : Nat} {g : α → List Value} (h : Gn s g) : ∀ xs : List α, (xs.flatMap g).length = xs.length * s
  | [] => by simp
  | x :: r => by rw [List.flatMap_cons, List.length_append, h.len, flat_len h r, List.length_cons, Nat.add_mul]; omega
theorem flat_get {α : Type} {s : Nat} {g : α → List Value} (h : Gn s g) : ∀ (xs : List α) (i j : Nat) (x : α), xs[i]? = some x → j < s → (xs.flatMap g)[i * s + j]? = (g x)[j]?
  | [], i, j, x, hx, _ => by simp at hx
  | y :: r, 0, j, x, hx, hj => by
    simp at hx; subst hx
    rw [List.flatMap_cons, Nat.zero_mul, Nat.zero_add, List.getElem?_append_left (by rw [h.len]; exact hj)]
  | y :: r, i + 1, j, x, hx, hj => by
    have e : (i + 1) * s + j = s + (i * s + j) := by rw [Nat.add_mul]; omega
    rw [List.flatMap_cons, e, List.getElem?_append_right (by rw [h.len]; omega), h.len]
    have : s + (i * s + j) - s = i * s + j := by omega
    rw [this]
    exact flat_get h r i j x (by simpa using hx) hj
theorem flat_set {α : Type} {s : Nat} {g : α → List Value} (h : Gn s g) (z : α) : ∀ (xs : List α) (i : Nat), i < xs.length → (xs.set i z).flatMap g = (xs.flatMap g).take (i * s) ++ g z ++ (xs.flatMap g).drop (i * s + s)
  | [], i, hi => by simp at hi
  | y :: r, 0, _ => by
    simp only [List.set_cons_zero, List.flatMap_cons, Nat.zero_mul, List.take_zero, List.nil_append, Nat.zero_add]
    rw [List.drop_append_of_le_length (by rw [h.len]; omega), List.drop_eq_nil_of_le (by rw [h.len]; omega), List.nil_append]
  | y :: r, i + 1, hi => by
    have ih := flat_set h z r i (by simpa using hi)
    simp only [List.set_cons_succ, List.flatMap_cons]
    have e : (i + 1) * s = (g y).length + i * s := by rw [h.len, Nat.add_mul]; omega
    rw [ih, e, List.take_length_add_append, Nat.add_assoc, List.drop_length_add_append]
    simp only [List.append_assoc]

section
variable {α : Type} {s : Nat} {g : α → List Value} {w w' : World} {og : Option Nat} {v : Value} {xs : List α}
theorem Osn.nil (h : Gn s g) (w : World) : Osn s g w none (.slice none 0 0) ([] : List α) := ⟨h, Ow.nil w s⟩
theorem Osn.up (h : Osn s g w og v xs) (u : Ext w w') : Osn s g w' og v xs := ⟨h.1, h.2.up u⟩
theorem Osn.updD {og' : Option Nat} (h : Osn s g w og v xs) (u : Upd og' w w') (d : Dj og og') : Osn s g w' og v xs := ⟨h.1, h.2.updD u d⟩
theorem Osn.loop {bad : List (Option Nat)} (h : Osn s g w og v xs) (u : UpdL bad w w') (d : AllO (Dj og) bad) : Osn s g w' og v xs := ⟨h.1, h.2.loop u d⟩
theorem Osn.ltO (h : Osn s g w og v xs) : ∀ k, og = some k → k < w.heap.size := h.2.ltO
theorem Osn.cells1 (h : Osn s g w og v xs) : v.cells = #[v] := h.2.cells1
theorem Osn.oneCell (h : Osn s g w og v xs) : v.oneCell' = true := h.2.oneCell
theorem osnE {ys : List α} (h : Osn s g w og v xs) (e : xs = ys) : Osn s g w og v ys := e ▸ h
theorem Osn.rd (h : Osn s g w og v xs) : Rd (EG s g h.1) w v xs := by
  have hl := flat_len h.1 xs
  have h0 := h.1.pos
  have hh := h.2
  rcases h.2 with ⟨_, rfl, hx⟩ | ⟨g', l, cap, cur, e, h1, rfl, h3, h4, h5, h6, h7, h8⟩
  · have hx : xs = [] := by
      rw [hx] at hl
      have : xs.length * s = 0 := by simpa using hl.symm
      rcases Nat.mul_eq_zero.1 this with h | h
      · exact List.eq_nil_of_length_eq_zero h
      · omega
    exact ⟨by simp [hx], .inl ⟨rfl, hx⟩⟩
  · have hlx : l = xs.length := by
      rw [hl] at h4
      exact (Nat.eq_of_mul_eq_mul_right h0 h4).symm
    subst hlx
    refine ⟨by simp only [maxLen] at h8; omega, .inr ⟨⟨g', 0, none⟩, cap, rfl, h7, fun i x hx => ⟨rfl, g x, rfl, rfl, fun j u hj => ?_⟩⟩⟩
    have hjs : j < s := by
      rw [← h.1.len x]
      rcases Nat.lt_or_ge j (g x).length with h' | h'
      · exact h'
      · rw [List.getElem?_eq_none h'] at hj; cases hj
    have hc := (hh.cellsAt rfl).2 (i * s + j) u (by rw [flat_get h.1 xs i j x hx hjs]; exact hj)
    simpa [padd, EG] using hc
theorem Osn.leI (h : Osn s g w og v xs) : (xs.length : Int) ≤ 9223372036854775807 := h.rd.leI
theorem Osn.ep (h : Osn s g w og v xs) {i : Nat} (hi : i < xs.length) : ∃ p, EP v i s p := by
  have hl := flat_len h.1 xs
  rcases h.2 with ⟨_, rfl, hx⟩ | ⟨g', l, cap, cur, e, h1, rfl, h3, h4, h5, h6, h7, h8⟩
  · rw [hx] at hl
    have : xs.length * s = 0 := by simpa using hl.symm
    rcases Nat.mul_eq_zero.1 this with h' | h'
    · omega
    · have := h.1.pos; omega
  · rw [hl] at h4
    have := Nat.eq_of_mul_eq_mul_right h.1.pos h4
    exact ⟨_, _, _, _, rfl, by omega, rfl, rfl⟩
end

theorem put_take {β : Type} (A z : List β) {n m L : Nat} (hz : z.length = m) (h1 : n + m ≤ L) (h2 : L ≤ A.length) :
    List.take L (A.take n ++ z ++ A.drop (n + m)) = (A.take L).take n ++ z ++ (A.take L).drop (n + m) := by
  have hl : (A.take n ++ z).length = n + m := by simp [hz]; omega
  rw [List.take_append, List.take_of_length_le (by omega), hl, List.drop_take, List.take_take]
  have : min n L = n := by omega
  rw [this]

section
variable {α : Type} {P : Program} {n : Nat} {σ : Fr} {b w : World} {x y : Operand} {v : Value} {d : Nat} {dst : Option Tmp} {ty : TypeId} {pos : String} {af : Array Edge} {gd : Option (Nat × Bool)} {t e : TypeId} {k m s yy : Nat} {p : Addr} {K : Fr → World → Prop} {g : α → List Value} {og : Option Nat} {xs : List α}

theorem PV.lenOsn {tt s' : Nat} (hx : ev σ x = some v) (hr : Osn s g b og v xs) (ht : slOf P tt = some (e, s', yy)) :
    PV P n σ w ⟨dst, .call ⟨.builtin .len, #[x], #[tt]⟩, ty, pos, af, gd⟩ (.int .i64 xs.length) := PV.len hx hr.rd ht

/-- A store of a whole thing into an owned slice. -/
theorem OpK.storeN (z : α) {i : Nat} (hm : szOf P t = some s) (hx : ev σ x = some (.pointer (some p))) (hy : ev σ y = some (.agg (g z).toArray)) (hp : EP v i s p) (ho : Osn s g w og v xs)
    (hK : ∀ w', Upd og w w' → Osn s g w' og v (xs.set i z) → K σ w') : OpK P n ⟨none, .store t x y, ty, pos, af, gd⟩ σ w K := by
  obtain ⟨a0, l', cap', hv, hi, hsp, rfl⟩ := hp
  obtain ⟨hg, ho⟩ := ho
  rcases ho with ⟨_, h, _⟩ | ⟨gb, l, cap, cur, e, rfl, rfl, h3, h4, h5, h6, h7, h8⟩
  · simp [hv] at h
  simp at hv
  obtain ⟨rfl, rfl, rfl⟩ := hv
  have hfl := flat_len hg xs
  have hlx : xs.length = l := by rw [hfl] at h4; exact Nat.eq_of_mul_eq_mul_right hg.pos h4
  have hpp : padd ⟨gb, 0, none⟩ (i * s) = ⟨gb, i * s, none⟩ := by simp [padd]
  rw [hpp] at hx
  have hfit : i * s + (g z).length ≤ cur.size := by
    rw [hg.len, h6]
    have : (i + 1) * s ≤ cap * s := Nat.mul_le_mul_right _ (by omega)
    rw [Nat.add_mul] at this; omega
  have h2 := run_storeCells_at P gb (i * s) e (g z) 0 cur w h3 (by simpa using hfit) (hg.one z)
  have hst : (Instr.storeAt t (.pointer (some ⟨gb, i * s, none⟩)) (.agg (g z).toArray)).run P w = .ok () (w.setRow gb (cur.toList.take (i * s) ++ g z ++ cur.toList.drop (i * s + s)).toArray) := by
    simp only [Instr.storeAt, Instr.sureAddr, storeVar, Sem.run_bind, Sem.run_pure, Result.andThen_ok, szOf_run hm]
    have hz : ¬ ((Value.agg (g z).toArray).cells.size ≠ s) := by simp [Value.cells, hg.len]
    rw [if_neg hz]
    show (storeCells _ (g z) 0).run P w = _
    rw [h2]
    simp [hg.len]
  refine .unit rfl (w' := w.setRow gb (cur.toList.take (i * s) ++ g z ++ cur.toList.drop (i * s + s)).toArray) (fun a ha => by simp [execOp, ha.eval hx, ha.eval hy, hst]) (hK _ (Upd.setRow _ _ _) ⟨hg, .inr ⟨gb, l, cap, _, e, rfl, rfl, setRow_heap w gb cur _ e _ h3, ?_, ?_, ?_, h7, h8⟩⟩)
  · rw [flat_len hg]; simp [hlx]
  · have hle : i * s + s ≤ l * s := by
      have : (i + 1) * s ≤ l * s := Nat.mul_le_mul_right _ (by omega)
      rw [Nat.add_mul] at this; omega
    have hcl : l * s ≤ cur.toList.length := by rw [Array.length_toList, h6]; exact Nat.mul_le_mul_right _ h7
    rw [flat_set hg z xs i (by omega), ← h5]
    exact put_take cur.toList (g z) (hg.len z) hle hcl
  · have : i * s + s ≤ cur.size := by rw [hg.len] at hfit; exact hfit
    simp [hg.len]; omega
end

theorem flat_rep {c : List Value} {s : Nat} (hc : c.length = s) (hs : 0 < s) : ∀ (l j : Nat), j < l * s → ((List.replicate l c).flatten)[j]? = c[j % s]?
  | 0, j, h => by omega
  | l + 1, j, h => by
    rw [List.replicate_succ, List.flatten_cons]
    by_cases hj : j < s
    · rw [List.getElem?_append_left (by omega), Nat.mod_eq_of_lt hj]
    · rw [List.getElem?_append_right (by omega), hc, flat_rep hc hs l (j - s) (by rw [Nat.add_mul] at h; omega), ← Nat.mod_eq_sub_mod (by omega)]
theorem made_flat {c : List Value} {s : Nat} (hc : c.length = s) (hs : 0 < s) (l : Nat) : madeCells c.toArray (l * s) = ((List.replicate l c).flatten).toArray := by
  have hfl : ((List.replicate l c).flatten).length = l * s := by simp [hc]
  apply Array.ext
  · rw [size_madeCells]; simp [hc]
  · intro j h1 h2
    rw [size_madeCells] at h1
    have h3 := flat_rep hc hs l j h1
    have hm : j % s < c.length := by rw [hc]; exact Nat.mod_lt _ hs
    simp only [madeCells, Array.getElem_map, Array.getElem_range, List.size_toArray, hc, List.getElem_toArray]
    rw [List.getElem?_eq_getElem (by omega), List.getElem?_eq_getElem hm] at h3
    simp only [Option.some.injEq] at h3
    rw [h3]
    simp [hm]

section
variable {α : Type} {P : Program} {n : Nat} {σ : Fr} {b w : World} {x y : Operand} {v : Value} {d : Nat} {dst : Option Tmp} {ty : TypeId} {pos : String} {af : Array Edge} {gd : Option (Nat × Bool)} {t e : TypeId} {k m s yy : Nat} {p : Addr} {K : Fr → World → Prop} {og : Option Nat}
/-- 'make([]T, l)', T of several cells. -/
theorem OpK.makeN (g : α → List Value) (z : α) {zv : Value} {l : Nat} (hg : Gn s g) (hb : Nat.blt d n = true) (ht : slOf P t = some (e, s, yy)) (hz : zvOf P e = some zv) (hz1 : zv.cells = (g z).toArray) (hx : ev σ x = some (.int .i64 (l : Int))) (hy : ev σ y = some (.int .i64 (l : Int))) (hl : yy * l ≤ 140737488355328 ∧ l ≤ 140737488355328)
    (hk : ∀ v g' w', Ext w w' → Osn s g w' (some g') v (List.replicate l z) → w.heap.size ≤ g' → K ((d, v) :: σ) w') : OpK P n ⟨some d, .makeSlice t x y, ty, pos, af, gd⟩ σ w K := by
  obtain ⟨h1, i, h2, h3, h4⟩ := slOf_spec ht
  have hz' : i.zero = some zv := by simpa [zvOf, h2] using hz
  subst h4
  have hfl : (List.replicate l z).flatMap g = (List.replicate l (g z)).flatten := by rw [List.flatMap_def, List.map_replicate]
  have hmk : madeCells zv.cells (l * i.size) = ((List.replicate l z).flatMap g).toArray := by
    rw [h3, hz1, hfl]; exact made_flat (hg.len z) hg.pos l
  have hby : (i.bytes : Int) * (l : Int) ≤ 281474976710656 := by
    have : ((i.bytes * l : Nat) : Int) ≤ 281474976710656 := by omega
    rwa [Int.natCast_mul] at this
  have hr := run_make (P := P) w t e i zv h1 h2 hz' .i64 .i64 (l : Int) (l : Int) (by omega) (Int.le_refl _) hby (by omega)
  simp only [Int.toNat_natCast, hmk] at hr
  refine .val rfl hb (fun a ha => by simp [execOp, ha.eval hx, ha.eval hy, hr]) (hk _ _ _ (Ext.alloc _ _) ⟨hg, Ow.new w _ e l s ?_ (by simp only [maxLen]; omega)⟩ (Nat.le_refl _))
  rw [flat_len hg]; simp

/-- A struct of four numbers. -/
def s4Of (P : Program) (t : TypeId) : Bool :=
  (P.stoodInHeld t == false) && (P.eqGuardType P.depth t == false) && (match P.underlying t with | some (.struct _) => true | _ => false) && match (P.fieldsOf t).toList with
  | [f0, f1, f2, f3] => (f0.name != "_") && (f1.name != "_") && (f2.name != "_") && (f3.name != "_") && (f0.offset == 0) && (f1.offset == 1) && (f2.offset == 2) && (f3.offset == 3) &&
    (ikOf P f0.type == some .i64) && (ikOf P f1.type == some .i64) && (ikOf P f2.type == some .i64) && (ikOf P f3.type == some .i64)
  | _ => false

theorem ik_part {P : Program} {t : TypeId} (h : (ikOf P t == some .i64) = true) (cs : Array Value) (k : Nat) (v : Value) (hk : cs[k]? = some v) (w : World) : (part t cs k).run P w = .ok v w := by
  have hu := ikOf_spec (by simpa using h : ikOf P t = some .i64)
  simp [part, isAgg, run_underlying hu, hk]
theorem equal4 (h : s4Of P t = true) (a0 a1 a2 a3 b0 b1 b2 b3 : Int) (w : World) : (Op.equalIn 10000 t (.agg #[.int .i64 a0, .int .i64 a1, .int .i64 a2, .int .i64 a3]) (.agg #[.int .i64 b0, .int .i64 b1, .int .i64 b2, .int .i64 b3])).run P w = .ok (decide (a0 = b0 ∧ a1 = b1 ∧ a2 = b2 ∧ a3 = b3)) w := by
  simp only [s4Of, Bool.and_eq_true] at h
  obtain ⟨⟨⟨h1, _⟩, h2⟩, h3⟩ := h
  have hu : P.underlying t = some (.struct (P.fieldsOf t)) := by
    unfold Program.fieldsOf
    split at h2
    · rename_i hh; rw [hh]
    · cases h2
  rw [run_equalIn_struct w 9999 t _ _ hu (by simpa using h1)]
  split at h3
  · rename_i f0 f1 f2 f3 he
    simp only [Bool.and_eq_true, beq_iff_eq, bne_iff_ne] at h3
    obtain ⟨⟨⟨⟨⟨⟨⟨⟨⟨⟨⟨n0, n1⟩, n2⟩, n3⟩, o0⟩, o1⟩, o2⟩, o3⟩, i0⟩, i1⟩, i2⟩, i3⟩ := h3
    have p0 := fun cs k v hk w => ik_part (P := P) (t := f0.type) (by simpa using i0) cs k v hk w
    have p1 := fun cs k v hk w => ik_part (P := P) (t := f1.type) (by simpa using i1) cs k v hk w
    have p2 := fun cs k v hk w => ik_part (P := P) (t := f2.type) (by simpa using i2) cs k v hk w
    have p3 := fun cs k v hk w => ik_part (P := P) (t := f3.type) (by simpa using i3) cs k v hk w
    have e0 : ∀ a b : Int, (Op.equalIn 9999 f0.type (.int .i64 a) (.int .i64 b)).run P w = .ok (a == b) w := fun a b => run_equalIn_int (P := P) w 9998 f0.type .i64 .i64 a b (ikOf_spec i0)
    have e1 : ∀ a b : Int, (Op.equalIn 9999 f1.type (.int .i64 a) (.int .i64 b)).run P w = .ok (a == b) w := fun a b => run_equalIn_int (P := P) w 9998 f1.type .i64 .i64 a b (ikOf_spec i1)
    have e2 : ∀ a b : Int, (Op.equalIn 9999 f2.type (.int .i64 a) (.int .i64 b)).run P w = .ok (a == b) w := fun a b => run_equalIn_int (P := P) w 9998 f2.type .i64 .i64 a b (ikOf_spec i2)
    have e3 : ∀ a b : Int, (Op.equalIn 9999 f3.type (.int .i64 a) (.int .i64 b)).run P w = .ok (a == b) w := fun a b => run_equalIn_int (P := P) w 9998 f3.type .i64 .i64 a b (ikOf_spec i3)
    simp only [Op.eqFields, he, n0, n1, n2, n3, o0, o1, o2, o3, ne_eq, not_false_eq_true, if_true, Sem.run_bind, p0 #[.int .i64 a0, .int .i64 a1, .int .i64 a2, .int .i64 a3] 0 (.int .i64 a0) rfl, p0 #[.int .i64 b0, .int .i64 b1, .int .i64 b2, .int .i64 b3] 0 (.int .i64 b0) rfl,
      p1 #[.int .i64 a0, .int .i64 a1, .int .i64 a2, .int .i64 a3] 1 (.int .i64 a1) rfl, p1 #[.int .i64 b0, .int .i64 b1, .int .i64 b2, .int .i64 b3] 1 (.int .i64 b1) rfl, p2 #[.int .i64 a0, .int .i64 a1, .int .i64 a2, .int .i64 a3] 2 (.int .i64 a2) rfl, p2 #[.int .i64 b0, .int .i64 b1, .int .i64 b2, .int .i64 b3] 2 (.int .i64 b2) rfl,
      p3 #[.int .i64 a0, .int .i64 a1, .int .i64 a2, .int .i64 a3] 3 (.int .i64 a3) rfl, p3 #[.int .i64 b0, .int .i64 b1, .int .i64 b2, .int .i64 b3] 3 (.int .i64 b3) rfl, Result.andThen_ok, e0, e1, e2, e3]
    try rw [e0]
    try simp only [Result.andThen_ok]
    by_cases q0 : a0 = b0
    · subst q0
      simp only [beq_self_eq_true, Bool.not_true, Bool.false_eq_true, if_false, true_and, Sem.run_bind, p1 #[.int .i64 a0, .int .i64 a1, .int .i64 a2, .int .i64 a3] 1 (.int .i64 a1) rfl, p1 #[.int .i64 a0, .int .i64 b1, .int .i64 b2, .int .i64 b3] 1 (.int .i64 b1) rfl, Result.andThen_ok]
      try rw [e1]
      try simp only [Result.andThen_ok]
      by_cases q1 : a1 = b1
      · subst q1
        simp only [beq_self_eq_true, Bool.not_true, Bool.false_eq_true, if_false, true_and, Sem.run_bind, p2 #[.int .i64 a0, .int .i64 a1, .int .i64 a2, .int .i64 a3] 2 (.int .i64 a2) rfl, p2 #[.int .i64 a0, .int .i64 a1, .int .i64 b2, .int .i64 b3] 2 (.int .i64 b2) rfl, Result.andThen_ok]
        try rw [e2]
        try simp only [Result.andThen_ok]
        by_cases q2 : a2 = b2
        · subst q2
          simp only [beq_self_eq_true, Bool.not_true, Bool.false_eq_true, if_false, true_and, Sem.run_bind, p3 #[.int .i64 a0, .int .i64 a1, .int .i64 a2, .int .i64 a3] 3 (.int .i64 a3) rfl, p3 #[.int .i64 a0, .int .i64 a1, .int .i64 a2, .int .i64 b3] 3 (.int .i64 b3) rfl, Result.andThen_ok]
          try rw [e3]
          try simp only [Result.andThen_ok]
          by_cases q3 : a3 = b3 <;> simp [q3]
        · simp [q2]
      · simp [q1]
    · simp [q0]
  · cases h3
theorem s4_guard (h : s4Of P t = true) : P.eqGuardType P.depth t = false := by
  simp only [s4Of, Bool.and_eq_true] at h
  simpa using h.1.1.2
variable {u : TypeId} {a0 a1 a2 a3 b0 b1 b2 b3 : Int}
theorem PV.eql4 (h : s4Of P t = true) (hx : ev σ x = some (.agg #[.int .i64 a0, .int .i64 a1, .int .i64 a2, .int .i64 a3])) (hy : ev σ y = some (.agg #[.int .i64 b0, .int .i64 b1, .int .i64 b2, .int .i64 b3])) : PV P n σ w ⟨dst, .binOp .eql t x y u, ty, pos, af, gd⟩ (.bool (decide (a0 = b0 ∧ a1 = b1 ∧ a2 = b2 ∧ a3 = b3))) := fun a ha => by
  have h1 := equal4 h a0 a1 a2 a3 b0 b1 b2 b3 w
  have h2 := run_eqGuard_agg (P := P) w .eql t x y #[.int .i64 a0, .int .i64 a1, .int .i64 a2, .int .i64 a3] #[.int .i64 b0, .int .i64 b1, .int .i64 b2, .int .i64 b3] (s4_guard h)
  simp only [execOp, ha.eval hx, ha.eval hy, Sem.run_bind, h2, Result.andThen_ok, run_eql_struct, h1]
  rfl
theorem PV.neq4 (h : s4Of P t = true) (hx : ev σ x = some (.agg #[.int .i64 a0, .int .i64 a1, .int .i64 a2, .int .i64 a3])) (hy : ev σ y = some (.agg #[.int .i64 b0, .int .i64 b1, .int .i64 b2, .int .i64 b3])) : PV P n σ w ⟨dst, .binOp .neq t x y u, ty, pos, af, gd⟩ (.bool (!decide (a0 = b0 ∧ a1 = b1 ∧ a2 = b2 ∧ a3 = b3))) := fun a ha => by
  have h1 := equal4 h a0 a1 a2 a3 b0 b1 b2 b3 w
  have h2 := run_eqGuard_agg (P := P) w .neq t x y #[.int .i64 a0, .int .i64 a1, .int .i64 a2, .int .i64 a3] #[.int .i64 b0, .int .i64 b1, .int .i64 b2, .int .i64 b3] (s4_guard h)
  simp only [execOp, ha.eval hx, ha.eval hy, Sem.run_bind, h2, Result.andThen_ok, run_neq_struct, h1]
  rfl
end

/-! ### Four numbers -/
abbrev R4 := Int × Int × Int × Int
@[reducible] def gR (x : R4) : List Value := [.int .i64 x.1, .int .i64 x.2.1, .int .i64 x.2.2.1, .int .i64 x.2.2.2]
theorem gR_ok : Gn 4 gR := ⟨by decide, fun _ => rfl, fun x u hu => by
  simp only [gR, List.mem_cons, List.not_mem_nil, or_false] at hu
  rcases hu with rfl | rfl | rfl | rfl <;> rfl⟩
@[reducible] def ER : Enc R4 := EG 4 gR gR_ok
theorem Osn.rdR {w : World} {og : Option Nat} {v : Value} {xs : List R4} (h : Osn 4 gR w og v xs) : Rd ER w v xs := h.rd
theorem r4_ext {a b : R4} (h : a.1 = b.1 ∧ a.2.1 = b.2.1 ∧ a.2.2.1 = b.2.2.1 ∧ a.2.2.2 = b.2.2.2) : a = b := by
  obtain ⟨a0, a1, a2, a3⟩ := a; obtain ⟨b0, b1, b2, b3⟩ := b
  simp only at h
  obtain ⟨rfl, rfl, rfl, rfl⟩ := h; rfl
theorem r4_no {a : R4} (h : ¬ (a.1 = a.1 ∧ a.2.1 = a.2.1 ∧ a.2.2.1 = a.2.2.1 ∧ a.2.2.2 = a.2.2.2)) : False := h ⟨rfl, rfl, rfl, rfl⟩

/-! ### One cell of an element; literals; appends -/
theorem flat_set1 {α : Type} {s : Nat} {g : α → List Value} (h : Gn s g) {z : α} {u : Value} {j : Nat} (hj : j < s) : ∀ (xs : List α) (i : Nat) (d : α), i < xs.length → g z = (g (xs.getD i d)).set j u → (xs.set i z).flatMap g = (xs.flatMap g).set (i * s + j) u
  | [], i, d, hi, _ => by simp at hi
  | y :: r, 0, d, _, hz => by
    simp only [List.getD_cons_zero] at hz
    simp only [List.set_cons_zero, List.flatMap_cons, Nat.zero_mul, Nat.zero_add]
    rw [hz, List.set_append_left _ _ (by rw [h.len]; exact hj)]
  | y :: r, i + 1, d, hi, hz => by
    simp only [List.getD_cons_succ] at hz
    have ih := flat_set1 h hj r i d (by simpa using hi) hz
    have e : (i + 1) * s + j = s + (i * s + j) := by rw [Nat.add_mul]; omega
    simp only [List.set_cons_succ, List.flatMap_cons]
    rw [ih, e, List.set_append_right _ _ (by rw [h.len]; omega), h.len]
    have : s + (i * s + j) - s = i * s + j := by omega
    rw [this]
section
variable {α : Type} {P : Program} {n : Nat} {σ : Fr} {b w : World} {x y : Operand} {v xv : Value} {d : Nat} {dst : Option Tmp} {ty : TypeId} {pos : String} {af : Array Edge} {gd : Option (Nat × Bool)} {t e : TypeId} {k m s yy : Nat} {p : Addr} {K : Fr → World → Prop} {g : α → List Value} {og : Option Nat} {xs ys : List α}
theorem OpK.storeF (z dv : α) {u : Value} {i j : Nat} (hs : szOf P t = some 1) (hx : ev σ x = some (.pointer (some (padd p j)))) (hy : ev σ y = some u) (hu : u.oneCell' = true) (hj : Nat.blt j s = true) (hz : g z = (g (xs.getD i dv)).set j u) (hp : EP v i s p) (ho : Osn s g w og v xs)
    (hK : ∀ w', Upd og w w' → Osn s g w' og v (xs.set i z) → K σ w') : OpK P n ⟨none, .store t x y, ty, pos, af, gd⟩ σ w K := by
  have hj : j < s := by simpa using hj
  obtain ⟨a0, l', cap', hv, hi, hsp, rfl⟩ := hp
  obtain ⟨hg, ho⟩ := ho
  have ho' := ho
  rcases ho with ⟨_, h, _⟩ | ⟨gb, l, cap, cur, e, rfl, rfl, h3, h4, h5, h6, h7, h8⟩
  · simp [hv] at h
  simp at hv
  obtain ⟨rfl, rfl, rfl⟩ := hv
  have hfl := flat_len hg xs
  have hlx : xs.length = l := by rw [hfl] at h4; exact Nat.eq_of_mul_eq_mul_right hg.pos h4
  have hpp : padd (padd ⟨gb, 0, none⟩ (i * s)) j = ⟨gb, i * s + j, none⟩ := by simp [padd]
  rw [hpp] at hx
  have hlt : i * s + j < l * s := by
    have : (i + 1) * s ≤ l * s := Nat.mul_le_mul_right _ (by omega)
    rw [Nat.add_mul] at this; omega
  refine .unit rfl (w' := w.setCell ⟨gb, i * s + j, none⟩ u) (fun a ha => ?_) (hK _ (Upd.setCell w ⟨gb, i * s + j, none⟩ u) ⟨hg, .inr ⟨gb, l, cap, _, e, rfl, rfl, setCell_heap h3, ?_, ?_, by simpa using h6, h7, h8⟩⟩)
  · have k1 : (w.cell? ⟨gb, i * s + j, none⟩).isSome = true := by
      have hll : i * s + j < (xs.flatMap g).length := by rw [hfl, hlx]; exact hlt
      have := (ho'.cellsAt rfl).2 (i * s + j) (xs.flatMap g)[i * s + j] (by simp [hll])
      simp only [padd, Nat.zero_add] at this
      rw [this]; rfl
    have k2 : w.frozen? ⟨gb, i * s + j, none⟩ = false := by simp [World.frozen?, h3]
    simp [execOp, ha.eval hx, ha.eval hy, run_storeAt_one hs hu k1 k2 rfl]
  · rw [flat_len hg]; simp [hlx]
  · rw [flat_set1 hg hj xs i dv (by omega) hz, ← h5, Array.toList_setIfInBounds, List.take_set]
theorem OpK.buildN (zs : List α) {os : List Operand} {l : Nat} {parts : Array (Nat × Operand)} (hg : Gn s g) (hb : Nat.blt d n = true) (ht : slOf P t = some (e, s, yy)) (hp : parts.toList = os.zipIdx.map fun (x, i) => (i, x)) (hl : os.length = l)
    {zv : Value} (hz : zvOf P e = some zv) (hx : evs σ os = some (zs.map fun z => .agg (g z).toArray)) (hbig : Nat.ble (l * s) 1000 = true)
    (hk : ∀ v g' w', Ext w w' → Osn s g w' (some g') v zs → w.heap.size ≤ g' → K ((d, v) :: σ) w') : OpK P n ⟨some d, .buildSlice t l parts, ty, pos, af, gd⟩ σ w K := by
  refine .buildSlice (css := zs.map g) hb ht hp hl hz hx ?_ ?_ hbig (by simpa using hg.pos) (fun v g' w' k1 k2 k3 => hk v g' w' k1 ⟨hg, by rw [List.flatMap_def]; exact k2⟩ k3)
  · simp only [List.map_map]; rfl
  · intro c hc
    obtain ⟨z, _, rfl⟩ := List.mem_map.1 hc
    exact hg.len z
theorem Osn.src (h : Osn s g w og xv ys) : Src w s xv (ys.flatMap g) := Ow.src h.2 (fun u hu => by
  obtain ⟨z, _, hz⟩ := List.mem_flatMap.1 hu
  exact h.1.one z u hz)
theorem OpK.appendN {zv : Value} (hb : Nat.blt d n = true) (ht : slOf P t = some (e, s, yy)) (hz : zvOf P e = some zv) (hzs : zv.cells.size = s)
    (hx : ev σ x = some v) (ho : Osn s g w og v xs) (hy : ev σ y = some xv) (hsrc : Src w s xv (ys.flatMap g))
    (hN : (xs.length * s + ys.length * s) * yy ≤ 140737488355328 ∧ xs.length * s + ys.length * s ≤ 140737488355328)
    (hk : ∀ v' og' w', Upd og w w' → Osn s g w' og' v' (xs ++ ys) → (og' = og ∨ ∃ g, og' = some g ∧ w.heap.size ≤ g) → K ((d, v') :: σ) w') :
    OpK P n ⟨some d, .call ⟨.builtin .append, #[x, y], #[t, t]⟩, ty, pos, af, gd⟩ σ w K :=
  .append hb ht hz hzs (by simpa using ho.1.pos) hx ho.2 hy hsrc (by rw [flat_len ho.1, flat_len ho.1]; exact hN) (fun v' og' w' h1 h2 h3 => hk v' og' w' h1 ⟨ho.1, by rw [List.flatMap_append]; exact h2⟩ h3)
end
@[reducible] def setR0 (u : Int) (x : R4) : R4 := (u, x.2.1, x.2.2.1, x.2.2.2)
@[reducible] def setR1 (u : Int) (x : R4) : R4 := (x.1, u, x.2.2.1, x.2.2.2)
@[reducible] def setR2 (u : Int) (x : R4) : R4 := (x.1, x.2.1, u, x.2.2.2)
@[reducible] def setR3 (u : Int) (x : R4) : R4 := (x.1, x.2.1, x.2.2.1, u)
section
variable {P : Program} {n : Nat} {σ : Fr} {w : World} {d : Nat} {ty : TypeId} {pos : String} {af : Array Edge} {gd : Option (Nat × Bool)} {t e : TypeId} {yy : Nat} {K : Fr → World → Prop}
theorem OpK.build4 {a0 a1 a2 a3 : Int} {os : List Operand} {l : Nat} {parts : Array (Nat × Operand)} (hb : Nat.blt d n = true) (ht : slOf P t = some (e, 4, yy)) (hp : parts.toList = os.zipIdx.map fun (x, i) => (i, x)) (hl : os.length = l)
    {zv : Value} (hz : zvOf P e = some zv) (hx : evs σ os = some [.agg #[.int .i64 a0, .int .i64 a1, .int .i64 a2, .int .i64 a3]]) (hbig : Nat.ble (l * 4) 1000 = true)
    (hk : ∀ v g' w', Ext w w' → Osn 4 gR w' (some g') v [(a0, a1, a2, a3)] → w.heap.size ≤ g' → K ((d, v) :: σ) w') : OpK P n ⟨some d, .buildSlice t l parts, ty, pos, af, gd⟩ σ w K :=
  .buildN [(a0, a1, a2, a3)] gR_ok hb ht hp hl hz hx hbig hk
end
theorem gR_set0 (u : Int) (x : R4) : gR (setR0 u x) = (gR x).set 0 (.int .i64 u) := rfl
theorem gR_set1 (u : Int) (x : R4) : gR (setR1 u x) = (gR x).set 1 (.int .i64 u) := rfl
theorem gR_set2 (u : Int) (x : R4) : gR (setR2 u x) = (gR x).set 2 (.int .i64 u) := rfl
theorem gR_set3 (u : Int) (x : R4) : gR (setR3 u x) = (gR x).set 3 (.int .i64 u) := rfl
end Go.WX
