/- Maps whose keys are structs or arrays of numbers: made, looked up, and put anew. No condition. -/
import Derived.Test.YthemmoceomdccaaLibM
import Derived.Test.YthemmoceomdccaaLibH
import Derived.WideKeyRuns
namespace Go.WX
open Go

/-- Keys of type k are what f says, and compare as what they bear. -/
structure KeyF (P : Program) (k : TypeId) {α : Type} [DecidableEq α] (f : α → Value) : Prop where
  wide : (match P.underlying k with | some (.array _ _) | some (.struct _) => true | _ => false) = true
  check : ∀ (em : Bool) (a : α) (w : World), (Instr.checkKey em 10000 k (f a)).run P w = .ok () w
  eq : ∀ (a b : α) (w : World), (Op.equal k (f a) (f b)).run P w = .ok (decide (a = b)) w

/-- Block p is a map with these entries, in order. -/
def Mp {α β : Type} (w : World) (p : Addr) (f : α → Value) (g : β → Value) (m : List (α × β)) : Prop :=
  ∃ es clock, w.heap[p.block]? = some (.map es clock) ∧ es.toList.map (fun e => (e.key, e.val)) = m.map (fun x => (f x.1, g x.2))
def mpGet {α β : Type} [DecidableEq α] (m : List (α × β)) (a : α) : Option β := (m.find? (fun x => decide (a = x.1))).map (·.2)

section
variable {α β : Type} {f : α → Value} {g : β → Value} {m : List (α × β)} {w w' : World} {p : Addr}
theorem Mp.lt (h : Mp w p f g m) : p.block < w.heap.size := by obtain ⟨es, c, h1, _⟩ := h; exact (Array.getElem?_eq_some_iff.1 h1).1
theorem Mp.ltO (h : Mp w p f g m) : ∀ k, some p.block = some k → k < w.heap.size := fun k hk => by cases hk; exact h.lt
theorem Mp.upd {og : Option Nat} (h : Mp w p f g m) (u : Upd og w w') (hne : og ≠ some p.block) : Mp w' p f g m := by
  have hl := h.lt
  obtain ⟨es, c, h1, h2⟩ := h
  exact ⟨es, c, (u.block _ hl (Ne.symm hne)).trans h1, h2⟩
theorem Mp.up (h : Mp w p f g m) (u : Ext w w') : Mp w' p f g m := h.upd u (by simp)
theorem Mp.updD {og : Option Nat} (h : Mp w p f g m) (u : Upd og w w') (d : Dj (some p.block) og) : Mp w' p f g m := h.upd u (fun e => d _ rfl e)
theorem Mp.loop {bad : List (Option Nat)} (h : Mp w p f g m) (u : UpdL bad w w') (d : AllO (Dj (some p.block)) bad) : Mp w' p f g m := by
  have hl := h.lt
  obtain ⟨es, c, h1, h2⟩ := h
  exact ⟨es, c, (u.block _ hl (fun hm => d.of _ hm _ rfl rfl)).trans h1, h2⟩
theorem mpE {m' : List (α × β)} (h : Mp w p f g m) (e : m = m') : Mp w p f g m' := e ▸ h
end

section
variable {P : Program} {α β : Type} [DecidableEq α] {k : TypeId} {f : α → Value} {g : β → Value}
theorem find_asking (K : KeyF P k f) (a : α) (w : World) : ∀ (es : List MapEntry) (m : List (α × β)) (i : Nat), es.map (fun e => (e.key, e.val)) = m.map (fun x => (f x.1, g x.2)) →
    (mpGet m a = none ∧ (Instr.findAsking k (f a) es i).run P w = .ok none w) ∨ ∃ b j, mpGet m a = some b ∧ (Instr.findAsking k (f a) es i).run P w = .ok (some (j, g b)) w
  | [], [], i, _ => .inl ⟨rfl, by simp [Instr.findAsking]⟩
  | [], x :: r, i, h => by simp at h
  | e :: r, [], i, h => by simp at h
  | e :: r, x :: s, i, h => by
    simp only [List.map_cons, List.cons.injEq, Prod.mk.injEq] at h
    obtain ⟨⟨h1, h2⟩, h3⟩ := h
    simp only [Instr.findAsking, Sem.run_bind, h1, K.eq, Result.andThen_ok]
    by_cases e1 : a = x.1
    · refine .inr ⟨x.2, i, by simp [mpGet, List.find?, e1], ?_⟩
      rw [decide_eq_true e1, if_pos rfl, ← h2]; rfl
    · rw [decide_eq_false e1, if_neg (by decide)]
      have e2 : mpGet (x :: s) a = mpGet s a := by simp [mpGet, List.find?, e1]
      rw [e2]; exact find_asking K a w r s (i + 1) h3
theorem find_key (K : KeyF P k f) (a : α) (w : World) {es : List MapEntry} {m : List (α × β)} (h : es.map (fun e => (e.key, e.val)) = m.map (fun x => (f x.1, g x.2))) :
    (mpGet m a = none ∧ (Instr.findKey k (f a) es).run P w = .ok none w) ∨ ∃ b j, mpGet m a = some b ∧ (Instr.findKey k (f a) es).run P w = .ok (some (j, g b)) w := by
  rw [run_findKey_eq w K.wide]; exact find_asking K a w es m 0 h
end

section
variable {P : Program} {n : Nat} {σ : Fr} {w : World} {x y z : Operand} {d : Nat} {dst : Option Tmp} {ty : TypeId} {pos : String} {af : Array Edge} {gd : Option (Nat × Bool)} {t k e : TypeId} {K : Fr → World → Prop}
variable {α β : Type} [DecidableEq α] {f : α → Value} {g : β → Value} {m : List (α × β)} {p : Addr} {a : α} {c : β} {zv : Value}

theorem run_look (KF : KeyF P k f) (ht : P.underlying t = some (.map k e)) (hz : zvOf P e = some zv) (hm : Mp w p f g m) (ok : Bool) :
    (Instr.lookup t (.map (some p.block)) (f a) ok).run P w = .ok (let r := match mpGet m a with | some c => (g c, true) | none => (zv, false); if ok then .tuple #[r.1, .bool r.2] else r.1) w := by
  obtain ⟨es, clock, h1, h2⟩ := hm
  simp only [Instr.lookup, Sem.run_bind, run_underlying ht, Result.andThen_ok, MapKept.run_getObj_map h1, Sem.run_pure, KF.check]
  rcases find_key (g := g) KF a w h2 with ⟨h3, h4⟩ | ⟨c, j, h3, h4⟩
  · simp only [h4, Result.andThen_ok, Sem.run_bind, zvOf_run hz, Sem.run_pure, h3]
  · simp only [h4, Result.andThen_ok, Sem.run_bind, Sem.run_pure, h3]
theorem PV.lookOk (KF : KeyF P k f) (ht : P.underlying t = some (.map k e)) (hz : zvOf P e = some zv) (hx : ev σ x = some (.map (some p.block))) (hy : ev σ y = some (f a)) (hm : Mp w p f g m) :
    PV P n σ w ⟨dst, .lookup t x y true, ty, pos, af, gd⟩ (match mpGet m a with | some c => .tuple #[g c, .bool true] | none => .tuple #[zv, .bool false]) := fun ac ha => by
  have h := run_look (a := a) KF ht hz hm true
  simp only [execOp, ha.eval hx, ha.eval hy, Sem.run_bind, h, Result.andThen_ok]
  cases mpGet m a <;> rfl
theorem PV.look (KF : KeyF P k f) (ht : P.underlying t = some (.map k e)) (hz : zvOf P e = some zv) (hx : ev σ x = some (.map (some p.block))) (hy : ev σ y = some (f a)) (hm : Mp w p f g m) :
    PV P n σ w ⟨dst, .lookup t x y false, ty, pos, af, gd⟩ (match mpGet m a with | some c => g c | none => zv) := fun ac ha => by
  have h := run_look (a := a) KF ht hz hm false
  simp only [execOp, ha.eval hx, ha.eval hy, Sem.run_bind, h, Result.andThen_ok]
  cases mpGet m a <;> rfl
/-- A set: every entry says yes. -/
theorem mpGet_set {xs : List α} {a : α} : mpGet (xs.map fun x => (x, true)) a = if a ∈ xs then some true else none := by
  induction xs with
  | nil => simp [mpGet]
  | cons x r ih =>
    by_cases e1 : a = x
    · simp [mpGet, List.find?, e1]
    · have : mpGet ((x :: r).map fun x => (x, true)) a = mpGet (r.map fun x => (x, true)) a := by simp [mpGet, List.find?, e1]
      rw [this, ih]; simp [e1]
theorem PV.lookSet {xs : List α} (KF : KeyF P k f) (ht : P.underlying t = some (.map k e)) (hz : zvOf P e = some (.bool false)) (hx : ev σ x = some (.map (some p.block))) (hy : ev σ y = some (f a)) (hm : Mp w p f (fun b : Bool => Value.bool b) (xs.map fun x => (x, true))) :
    PV P n σ w ⟨dst, .lookup t x y false, ty, pos, af, gd⟩ (.bool (decide (a ∈ xs))) := by
  have h := PV.look (n := n) (dst := dst) (ty := ty) (pos := pos) (af := af) (gd := gd) KF ht hz hx hy hm
  rw [mpGet_set] at h
  by_cases e1 : a ∈ xs
  · rw [if_pos e1] at h; rw [decide_eq_true e1]; exact h
  · rw [if_neg e1] at h; rw [decide_eq_false e1]; exact h
theorem run_put (KF : KeyF P k f) (ht : P.underlying t = some (.map k e)) (hm : Mp w p f g m) (hn : mpGet m a = none) :
    ∃ w', (Instr.mapUpdate t (.map (some p.block)) (f a) (g c)).run P w = .ok () w' ∧ Upd (some p.block) w w' ∧ Mp w' p f g (m ++ [(a, c)]) := by
  obtain ⟨es, clock, h1, h2⟩ := hm
  rcases find_key (g := g) KF a w h2 with ⟨_, h4⟩ | ⟨b, j, h3, _⟩
  · refine ⟨{ w with heap := w.heap.setIfInBounds p.block (.map (es.push { key := f a, val := g c, born := clock }) (clock + 1)) }, ?_, ⟨rfl, rfl, rfl, by simp, fun i _ hi => ?_⟩, ⟨es.push { key := f a, val := g c, born := clock }, clock + 1, ?_, ?_⟩⟩
    · simp only [Instr.mapUpdate, Sem.run_bind, run_underlying ht, Result.andThen_ok, MapKept.run_getObj_map h1, KF.check, h4, MapKept.run_setObj_map _ h1]
    · have : p.block ≠ i := fun e9 => hi (by rw [e9])
      simp [Array.getElem?_setIfInBounds_ne this]
    · have := (Array.getElem?_eq_some_iff.1 h1).1
      simp [this]
    · simp [h2]
  · rw [hn] at h3; cases h3
theorem OpK.put (KF : KeyF P k f) (ht : P.underlying t = some (.map k e)) (hx : ev σ x = some (.map (some p.block))) (hy : ev σ y = some (f a)) (hz : ev σ z = some (g c)) (hm : Mp w p f g m) (hn : mpGet m a = none)
    (hK : ∀ w', Upd (some p.block) w w' → Mp w' p f g (m ++ [(a, c)]) → K σ w') : OpK P n ⟨none, .mapUpdate t x y z, ty, pos, af, gd⟩ σ w K := by
  obtain ⟨w', h1, h2, h3⟩ := run_put (c := c) KF ht hm hn
  exact .unit rfl (fun ac ha => by simp [execOp, ha.eval hx, ha.eval hy, ha.eval hz, h1]) (hK w' h2 h3)
theorem OpK.insert (KF : KeyF P k f) (ht : P.underlying t = some (.map k e)) (hx : ev σ x = some (.map (some p.block))) (hy : ev σ y = some (f a)) (hz : ev σ z = some (g c)) (hm : Mp w p f g m) (hn : mpGet m a = none)
    (hK : ∀ w', Upd (some p.block) w w' → Mp w' p f g (m ++ [(a, c)]) → K σ w') : OpK P n ⟨none, .insert t x y z, ty, pos, af, gd⟩ σ w K := by
  obtain ⟨w', h1, h2, h3⟩ := run_put (c := c) KF ht hm hn
  exact .unit rfl (fun ac ha => by simp [execOp, ha.eval hx, ha.eval hy, ha.eval hz, h1]) (hK w' h2 h3)
end

section
variable {P : Program} {n : Nat} {σ : Fr} {w : World} {x : Operand} {d : Nat} {dst : Option Tmp} {ty : TypeId} {pos : String} {af : Array Edge} {gd : Option (Nat × Bool)} {t k e : TypeId} {K : Fr → World → Prop}
variable {α β : Type} {f : α → Value} {g : β → Value} {m : List (α × β)} {p : Addr}
theorem OpK.makeMap (hb : Nat.blt d n = true) (f : α → Value) (g : β → Value) (hk : ∀ p w', Ext w w' → Mp w' p f g [] → w.heap.size ≤ p.block → K ((d, .map (some p.block)) :: σ) w') : OpK P n ⟨some d, .makeMap t none, ty, pos, af, gd⟩ σ w K :=
  .val rfl hb (w' := w.alloc (.map #[] 0)) (fun ac _ => by
    have h : (Instr.makeMap t none).run P w = .ok (.map (some w.heap.size)) (w.alloc (.map #[] 0)) := rfl
    simp [execOp, h]) (hk ⟨w.heap.size, 0, none⟩ _ (Ext.alloc _ _) ⟨#[], 0, heap_alloc_new w _, rfl⟩ (Nat.le_refl _))
theorem PV.lenMp {tt : TypeId} (hx : ev σ x = some (.map (some p.block))) (ht : P.underlying tt = some (.map k e)) (hm : Mp w p f g m) : PV P n σ w ⟨dst, .call ⟨.builtin .len, #[x], #[tt]⟩, ty, pos, af, gd⟩ (.int .i64 m.length) := fun ac ha => by
  obtain ⟨es, clock, h1, h2⟩ := hm
  have hl : es.size = m.length := by have := congrArg List.length h2; simpa using this
  simp [execOp, resolve, invoke, builtin, Builtin.len_, ha.eval hx, run_underlying ht, MapKept.run_getObj_map h1, goInt, hl]
end

/-! ### Keys of three numbers -/
abbrev P3 : Type := Int × Int × Int
@[reducible] def g3 (x : P3) : List Value := [.int .i64 x.1, .int .i64 x.2.1, .int .i64 x.2.2]
theorem g3_ok : Gn 3 g3 := ⟨by decide, fun _ => rfl, fun x u hu => by
  simp only [g3, List.mem_cons, List.not_mem_nil, or_false] at hu
  rcases hu with rfl | rfl | rfl <;> rfl⟩
@[reducible] def VP3 (x : P3) : Value := .agg #[.int .i64 x.1, .int .i64 x.2.1, .int .i64 x.2.2]
def s3Of (P : Program) (t : TypeId) : Bool :=
  (P.stoodInHeld t == false) && (match P.underlying t with | some (.struct _) => true | _ => false) && match (P.fieldsOf t).toList with
  | [f0, f1, f2] => (f0.name != "_") && (f1.name != "_") && (f2.name != "_") && (f0.offset == 0) && (f1.offset == 1) && (f2.offset == 2) &&
    (ikOf P f0.type == some .i64) && (ikOf P f1.type == some .i64) && (ikOf P f2.type == some .i64)
  | _ => false
section
variable {P : Program} {t : TypeId}
theorem s3_und (h : s3Of P t = true) : P.underlying t = some (.struct (P.fieldsOf t)) := by
  simp only [s3Of, Bool.and_eq_true] at h
  have h2 := h.1.2
  unfold Program.fieldsOf
  split at h2
  · rename_i hh; rw [hh]
  · cases h2
theorem equal3 (h : s3Of P t = true) (a b : P3) (w : World) : (Op.equalIn 10000 t (VP3 a) (VP3 b)).run P w = .ok (decide (a = b)) w := by
  obtain ⟨a0, a1, a2⟩ := a; obtain ⟨b0, b1, b2⟩ := b
  have hu := s3_und h
  simp only [s3Of, Bool.and_eq_true] at h
  obtain ⟨⟨h1, _⟩, h3⟩ := h
  show (Op.equalIn 10000 t (.agg #[.int .i64 a0, .int .i64 a1, .int .i64 a2]) (.agg #[.int .i64 b0, .int .i64 b1, .int .i64 b2])).run P w = _
  rw [run_equalIn_struct w 9999 t _ _ hu (by simpa using h1)]
  split at h3
  · rename_i f0 f1 f2 he
    simp only [Bool.and_eq_true, beq_iff_eq, bne_iff_ne] at h3
    obtain ⟨⟨⟨⟨⟨⟨⟨⟨n0, n1⟩, n2⟩, o0⟩, o1⟩, o2⟩, i0⟩, i1⟩, i2⟩ := h3
    have p0 := fun cs k v hk w => ik_part (P := P) (t := f0.type) (by simpa using i0) cs k v hk w
    have p1 := fun cs k v hk w => ik_part (P := P) (t := f1.type) (by simpa using i1) cs k v hk w
    have p2 := fun cs k v hk w => ik_part (P := P) (t := f2.type) (by simpa using i2) cs k v hk w
    have e0 : ∀ a b : Int, (Op.equalIn 9999 f0.type (.int .i64 a) (.int .i64 b)).run P w = .ok (a == b) w := fun a b => run_equalIn_int (P := P) w 9998 f0.type .i64 .i64 a b (ikOf_spec i0)
    have e1 : ∀ a b : Int, (Op.equalIn 9999 f1.type (.int .i64 a) (.int .i64 b)).run P w = .ok (a == b) w := fun a b => run_equalIn_int (P := P) w 9998 f1.type .i64 .i64 a b (ikOf_spec i1)
    have e2 : ∀ a b : Int, (Op.equalIn 9999 f2.type (.int .i64 a) (.int .i64 b)).run P w = .ok (a == b) w := fun a b => run_equalIn_int (P := P) w 9998 f2.type .i64 .i64 a b (ikOf_spec i2)
    simp only [Op.eqFields, he, n0, n1, n2, o0, o1, o2, ne_eq, not_false_eq_true, if_true, Sem.run_bind, p0 #[.int .i64 a0, .int .i64 a1, .int .i64 a2] 0 (.int .i64 a0) rfl, p0 #[.int .i64 b0, .int .i64 b1, .int .i64 b2] 0 (.int .i64 b0) rfl,
      p1 #[.int .i64 a0, .int .i64 a1, .int .i64 a2] 1 (.int .i64 a1) rfl, p1 #[.int .i64 b0, .int .i64 b1, .int .i64 b2] 1 (.int .i64 b1) rfl, p2 #[.int .i64 a0, .int .i64 a1, .int .i64 a2] 2 (.int .i64 a2) rfl, p2 #[.int .i64 b0, .int .i64 b1, .int .i64 b2] 2 (.int .i64 b2) rfl,
      Result.andThen_ok, e0, e1, e2]
    try rw [e0]
    try simp only [Result.andThen_ok]
    by_cases q0 : a0 = b0
    · subst q0
      simp only [beq_self_eq_true, Bool.not_true, Bool.false_eq_true, if_false, Sem.run_bind, p1 #[.int .i64 a0, .int .i64 a1, .int .i64 a2] 1 (.int .i64 a1) rfl, p1 #[.int .i64 a0, .int .i64 b1, .int .i64 b2] 1 (.int .i64 b1) rfl, Result.andThen_ok]
      try rw [e1]
      try simp only [Result.andThen_ok]
      by_cases q1 : a1 = b1
      · subst q1
        simp only [beq_self_eq_true, Bool.not_true, Bool.false_eq_true, if_false, Sem.run_bind, p2 #[.int .i64 a0, .int .i64 a1, .int .i64 a2] 2 (.int .i64 a2) rfl, p2 #[.int .i64 a0, .int .i64 a1, .int .i64 b2] 2 (.int .i64 b2) rfl, Result.andThen_ok]
        try rw [e2]
        try simp only [Result.andThen_ok]
        by_cases q2 : a2 = b2 <;> simp [q2]
      · simp [q1]
    · simp [q0]
  · cases h3
theorem check_int {e : TypeId} (he : ikOf P e = some .i64) (em : Bool) (n : Nat) (z : Int) (w : World) : (Instr.checkKey em (n + 1) e (.int .i64 z)).run P w = .ok () w := by
  simp [Instr.checkKey, run_underlying (ikOf_spec he)]
theorem check3 (h : s3Of P t = true) (em : Bool) (a : P3) (w : World) : (Instr.checkKey em 10000 t (VP3 a)).run P w = .ok () w := by
  have hu := s3_und h
  simp only [s3Of, Bool.and_eq_true] at h
  obtain ⟨⟨h1, _⟩, h3⟩ := h
  split at h3
  · rename_i f0 f1 f2 he
    simp only [Bool.and_eq_true, beq_iff_eq, bne_iff_ne] at h3
    obtain ⟨⟨⟨⟨⟨⟨⟨⟨n0, n1⟩, n2⟩, o0⟩, o1⟩, o2⟩, i0⟩, i1⟩, i2⟩ := h3
    have p0 := ik_part (P := P) (t := f0.type) (by simpa using i0) #[.int .i64 a.1, .int .i64 a.2.1, .int .i64 a.2.2] 0 (.int .i64 a.1) rfl w
    have p1 := ik_part (P := P) (t := f1.type) (by simpa using i1) #[.int .i64 a.1, .int .i64 a.2.1, .int .i64 a.2.2] 1 (.int .i64 a.2.1) rfl w
    have p2 := ik_part (P := P) (t := f2.type) (by simpa using i2) #[.int .i64 a.1, .int .i64 a.2.1, .int .i64 a.2.2] 2 (.int .i64 a.2.2) rfl w
    have hfs : P.fieldsOf t = #[f0, f1, f2] := Array.toList_inj.1 he
    rw [hfs] at hu
    show (Instr.checkKey em (9999 + 1) t (.agg #[.int .i64 a.1, .int .i64 a.2.1, .int .i64 a.2.2])).run P w = _
    rw [Instr.checkKey]
    have c0 := fun z => check_int i0 em 9998 z w; have c1 := fun z => check_int i1 em 9998 z w; have c2 := fun z => check_int i2 em 9998 z w
    simp [run_underlying hu, n0, n1, n2, o0, o1, o2, p0, p1, p2, c0, c1, c2]
  · cases h3
theorem key3 (h : s3Of P t = true) : KeyF P t VP3 :=
  ⟨by rw [s3_und h], fun em a w => check3 h em a w, fun a b w => equal3 h a b w⟩
end
end Go.WX
