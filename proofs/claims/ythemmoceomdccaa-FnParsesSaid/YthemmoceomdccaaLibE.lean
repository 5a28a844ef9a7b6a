/- Laws of calls, and of regions that draw their order: a plan names the operations in one order; the plan's soundness is one closed test. No condition. -/
import Derived.Test.YthemmoceomdccaaLibD
namespace Go.WX
open Go

/-! ### Calls -/
def cfOf (P : Program) (f : FuncId) : Bool := match P.funcs[f]? with
  | some fn => !(fn.name == "runtime.NumGoroutine") && fn.body.isSome
  | none => false
theorem run_callFunc {P : Program} {f : FuncId} (h : cfOf P f = true) (vs : Array Value) (w : World) : (callFunc f vs).run P w = .ok (.enter f vs) w := by
  unfold cfOf at h
  split at h
  · rename_i fn hf
    simp only [Bool.and_eq_true, Bool.not_eq_true'] at h
    have h2 : fn.body.isNone = false := by cases hb : fn.body <;> simp_all
    simp only [callFunc, Sem.run_bind, run_program, Result.andThen_ok, hf, h.1, h2]
    rfl
  · simp at h

/-- A value that is given back in a world that holds all that was there. -/
def RQt (v : Value) (w : World) : Value → World → Prop := fun v' w' => v' = v ∧ Ext w w'

section
variable {P : Program} {n : Nat} {σ : Fr} {w : World} {d : Nat} {ty : TypeId} {pos : String} {af : Array Edge} {gd : Option (Nat × Bool)} {f : FuncId} {xs : List Operand} {vs us : List Value} {tt : Array TypeId} {R : Value → World → Prop} {K : Fr → World → Prop} {v : Value} {x : Operand}

theorem OpK.callAny {o : Oper} {us : Array Value} (hop : ∀ a, Ag n a σ → (execOp a.eval o).run P w = .ok (.enter f us) w) (hc : Calls P f us w (Ret1 R))
    (hk : ∀ a, Ag n a σ → ∀ v w', R v w' → ∃ σ', Ag n (a.put o.dst v) σ' ∧ K σ' w') : OpK P n o σ w K := by
  constructor
  intro a ha K' Q' hK
  simp only [Oper.wp, hop a ha, Oper.upon]
  refine hc.mono (fun e w' he => ?_)
  cases e with
  | returned v =>
    obtain ⟨σ', h1, h2⟩ := hk a ha v w' he
    exact hK _ _ _ h1 h2
  | panicked c => exact he.elim
  | outgrown => exact he.elim

theorem OpK.call (hb : Nat.blt d n = true) (hf : cfOf P f = true) (hx : evs σ xs = some vs) (hc : Calls P f vs.toArray w (Ret1 R)) (hk : ∀ v w', R v w' → K ((d, v) :: σ) w') :
    OpK P n ⟨some d, .call ⟨.value (.func f), xs.toArray, tt⟩, ty, pos, af, gd⟩ σ w K :=
  .callAny (fun a ha => by simp [execOp, resolve, Deferred.ofValue, invoke, Act.eval, ha.evals hx, run_callFunc hf]) hc (fun _ ha v w' h => ⟨_, ha.put hb v, hk v w' h⟩)
theorem OpK.call0 (hf : cfOf P f = true) (hx : evs σ xs = some vs) (hc : Calls P f vs.toArray w (Ret1 R)) (hk : ∀ v w', R v w' → K σ w') :
    OpK P n ⟨none, .call ⟨.value (.func f), xs.toArray, tt⟩, ty, pos, af, gd⟩ σ w K :=
  .callAny (fun a ha => by simp [execOp, resolve, Deferred.ofValue, invoke, Act.eval, ha.evals hx, run_callFunc hf]) hc (fun _ ha v w' h => ⟨_, ha.putNone v, hk v w' h⟩)
theorem OpK.callR (hb : Nat.blt d n = true) (hf : cfOf P f = true) (hx : evs σ xs = some vs) (hc : Calls P f vs.toArray w (Ret1 (RQt v w))) (hk : ∀ w', Ext w w' → K ((d, v) :: σ) w') :
    OpK P n ⟨some d, .call ⟨.value (.func f), xs.toArray, tt⟩, ty, pos, af, gd⟩ σ w K := .call hb hf hx hc (fun v w' h => by obtain ⟨rfl, h⟩ := h; exact hk w' h)
/-- A call of a function value. -/
theorem OpK.callC {t : Nat} (hb : Nat.blt d n = true) (hf : cfOf P f = true) (ht : look t σ = some (.func (.func f) #[] us.toArray)) (hx : evs σ xs = some vs) (hc : Calls P f (vs ++ us).toArray w (Ret1 R)) (hk : ∀ v w', R v w' → K ((d, v) :: σ) w') :
    OpK P n ⟨some d, .call ⟨.value (.tmp t), xs.toArray, tt⟩, ty, pos, af, gd⟩ σ w K :=
  .callAny (fun a ha => by simp [execOp, resolve, Deferred.ofValue, invoke, ha.eval (x := .tmp t) ht, ha.evals hx, run_callFunc hf]) hc (fun _ ha v w' h => ⟨_, ha.put hb v, hk v w' h⟩)
theorem OpK.callC0 {t : Nat} (hf : cfOf P f = true) (ht : look t σ = some (.func (.func f) #[] us.toArray)) (hx : evs σ xs = some vs) (hc : Calls P f (vs ++ us).toArray w (Ret1 R)) (hk : ∀ v w', R v w' → K σ w') :
    OpK P n ⟨none, .call ⟨.value (.tmp t), xs.toArray, tt⟩, ty, pos, af, gd⟩ σ w K :=
  .callAny (fun a ha => by simp [execOp, resolve, Deferred.ofValue, invoke, ha.eval (x := .tmp t) ht, ha.evals hx, run_callFunc hf]) hc (fun _ ha v w' h => ⟨_, ha.putNone v, hk v w' h⟩)
end

/-! ### Regions that draw their order -/
section
variable (P : Program) (ops : Array Oper) (Q : Exit → Act → World → Prop) (S : World → Prop) (L : Nat)

/-- Whatever order is picked; S holds behind every operation but number L. -/
def AnyL : Nat → Array Bool → Act → World → Prop
  | 0, listed, a, w => Region.ready .any ops listed = [] ∧ Q .normal a w
  | fuel + 1, listed, a, w => (Region.ready .any ops listed = [] → Q .normal a w) ∧
    ∀ i ∈ Region.ready .any ops listed, wpOp P ops Q i (fun a' w' => (i ≠ L → S w') ∧ AnyL fuel (listed.setIfInBounds i true) a' w') a w
end

section
variable {P : Program} {ops : Array Oper} {Q : Exit → Act → World → Prop} {S : World → Prop} {L : Nat}

theorem wpAny_of_AnyL : ∀ (fuel : Nat) (listed : Array Bool) (a : Act) (w : World), AnyL P ops Q S L fuel listed a w → wpAny P .any ops Q fuel listed a w
  | 0, _, _, _, h => h
  | fuel + 1, _, _, _, h => ⟨h.1, fun i hi => wpOp_mono (fun a' w' h' => wpAny_of_AnyL fuel _ a' w' h'.2) (h.2 i hi)⟩

/-- Operation L waits for operation i. -/
def waits (ops : Array Oper) (L i : Nat) : Bool := match ops[L]? with
  | none => true
  | some o => L == i || o.after.any (fun e => Region.binds .any e && e.on == i)

theorem waits_spec {i j : Nat} {listed : Array Bool} (h : waits ops L i = true) (hi : i ∈ Region.ready .any ops listed) (hj : j ∈ Region.ready .any ops listed) (hne : j ≠ i) : j ≠ L := by
  rintro rfl
  obtain ⟨_, o, ho, hall⟩ := mem_ready.1 hj
  simp only [waits, ho, Bool.or_eq_true, beq_iff_eq, hne, false_or] at h
  obtain ⟨e, he, hb⟩ := Array.any_eq_true'.1 h
  simp only [Bool.and_eq_true, beq_iff_eq] at hb
  have h1 := hall e he hb.1
  have h0 := (mem_ready.1 hi).1
  rw [hb.2] at h1
  rcases Nat.lt_or_ge i listed.size with h' | h'
  · simp [h'] at h0 h1; rw [h0] at h1; cases h1
  · simp [Array.getElem?_eq_none h'] at h1

/-- Operation a comes behind operation b, as the region says. -/
def direct (ops : Array Oper) (a b : Nat) : Bool := match ops[a]? with
  | none => false
  | some o => o.after.any (fun e => Region.binds .any e && e.on == b)
/-- Operation a waits for operation i, over operations that are not listed yet. -/
def waitsN (ops : Array Oper) (listed : Array Bool) (i : Nat) : Nat → Nat → Bool
  | 0, _ => false
  | f + 1, a => a == i || direct ops a i || (List.range ops.size).any fun k => !(listed.getD k true) && direct ops a k && waitsN ops listed i f k
/-- Operation L waits for operation i, at once or over others. -/
def waits3 (ops : Array Oper) (listed : Array Bool) (L i : Nat) : Bool := waits ops L i || waitsN ops listed i 16 L
theorem direct_spec {a b : Nat} {listed : Array Bool} (h : direct ops a b = true) (ha : a ∈ Region.ready .any ops listed) : listed.getD b false = true := by
  obtain ⟨_, o, ho, hall⟩ := mem_ready.1 ha
  simp only [direct, ho] at h
  obtain ⟨e, he, hb⟩ := Array.any_eq_true'.1 h
  simp only [Bool.and_eq_true, beq_iff_eq] at hb
  have h1 := hall e he hb.1
  rw [hb.2] at h1; exact h1
theorem listed_not {i : Nat} {listed : Array Bool} (h1 : listed.getD i true = false) (h2 : listed.getD i false = true) : False := by
  rcases Nat.lt_or_ge i listed.size with h' | h'
  · simp [h'] at h1 h2; rw [h1] at h2; cases h2
  · simp [Array.getElem?_eq_none h'] at h2
theorem waitsN_spec {i j : Nat} {listed : Array Bool} (hi : i ∈ Region.ready .any ops listed) (hj : j ∈ Region.ready .any ops listed) (hne : j ≠ i) :
    ∀ (f a : Nat), waitsN ops listed i f a = true → j ≠ a ∧ waitsN ops (listed.setIfInBounds j true) i f a = true
  | 0, a, h => by simp [waitsN] at h
  | f + 1, a, h => by
    unfold waitsN at h ⊢
    simp only [Bool.or_eq_true, beq_iff_eq] at h ⊢
    rcases h with (h | h) | h
    · exact ⟨by rw [h]; exact hne, .inl (.inl h)⟩
    · refine ⟨?_, .inl (.inr h)⟩
      rintro rfl
      have h5 := direct_spec h hj
      have h0 := (mem_ready.1 hi).1
      rcases Nat.lt_or_ge i listed.size with h' | h'
      · simp [h'] at h0 h5; rw [h0] at h5; cases h5
      · simp [Array.getElem?_eq_none h'] at h5
    · obtain ⟨k, hk, hp⟩ := List.any_eq_true.1 h
      simp only [Bool.and_eq_true, Bool.not_eq_true'] at hp
      obtain ⟨⟨h2, h3⟩, h4⟩ := hp
      obtain ⟨hjk, h5⟩ := waitsN_spec hi hj hne f k h4
      refine ⟨?_, .inr (List.any_eq_true.2 ⟨k, hk, ?_⟩)⟩
      · rintro rfl
        exact listed_not h2 (direct_spec h3 hj)
      · simp only [Bool.and_eq_true, Bool.not_eq_true']
        exact ⟨⟨by rw [getD_set_ne true hjk]; exact h2, h3⟩, h5⟩
theorem waits3_spec {i j : Nat} {listed : Array Bool} (h : waits3 ops listed L i = true) (hi : i ∈ Region.ready .any ops listed) (hj : j ∈ Region.ready .any ops listed) (hne : j ≠ i) : j ≠ L ∧ waits3 ops (listed.setIfInBounds j true) L i = true := by
  unfold waits3 at h ⊢
  rw [Bool.or_eq_true] at h ⊢
  rcases h with h | h
  · exact ⟨waits_spec h hi hj hne, .inl h⟩
  · obtain ⟨h1, h2⟩ := waitsN_spec hi hj hne _ _ h
    exact ⟨h1, .inr h2⟩

theorem AnyL.first {i : Nat} {oi : Oper} {v : Value} (hi : ops[i]? = some oi) (hsel : ∀ (j : Nat) (o : Oper) cs b, ops[j]? = some o → o.op ≠ .select cs b)
    (hQ : ∀ c a d v w, Q (.panic c) (Act.put a d v) w → Q (.panic c) a w) : ∀ (fuel : Nat) (listed : Array Bool) (a : Act) (w : World), waits3 ops listed L i = true →
      (∀ j oj, ops[j]? = some oj → j ≠ i → listed.getD j true = false → (∀ e ∈ oj.after, Region.binds .any e = true → e.on ≠ i) → oi.apart ops oj = true) →
      i ∈ Region.ready .any ops listed → YieldsIf P ops S oi v a → S w →
      AnyL P ops Q S L fuel (listed.setIfInBounds i true) (a.put oi.dst v) w → AnyL P ops Q S L (fuel + 1) listed a w := by
  intro fuel
  induction fuel with
  | zero =>
    intro listed a w _ _ hr hy hS H
    refine ⟨fun h => (by rw [h] at hr; cases hr), fun j hj => ?_⟩
    by_cases hji : j = i
    · subst hji; exact hy.wpOp hi hS ⟨fun _ => hS, H⟩
    · have := ready_mono hj hji
      rw [H.1] at this; cases this
  | succ fuel ih =>
    intro listed a w hw hfree hr hy hS H
    refine ⟨fun h => (by rw [h] at hr; cases hr), fun j hj => ?_⟩
    by_cases hji : j = i
    · subst hji; exact hy.wpOp hi hS ⟨fun _ => hS, H⟩
    · have ⟨hjL, hw2⟩ := waits3_spec hw hr hj hji
      have h1 := H.2 j (ready_mono hj hji)
      obtain ⟨hjun, oj, hoj, hall⟩ := mem_ready.1 hj
      have hnot : ∀ e ∈ oj.after, Region.binds .any e = true → e.on ≠ i := fun e he hb heq => by
        have h1 := hall e he hb
        have h0 := (mem_ready.1 hr).1
        rw [heq] at h1
        rcases Nat.lt_or_ge i listed.size with h' | h'
        · simp [h'] at h0 h1; rw [h0] at h1; cases h1
        · simp [Array.getElem?_eq_none h'] at h1
      have h2 := wpOp_putIf hoj (hfree j oj hoj hji hjun hnot) (fun cs b => hsel i oi cs b hi) (fun cs b => hsel j oj cs b hoj) (fun c a w h => hQ c a _ _ w h) hy h1
      refine wpOp_mono (fun a' w' h3 => ?_) h2
      have hS' := h3.2.1 hjL
      refine ⟨fun _ => hS', ih (listed.setIfInBounds j true) a' w' hw2 (fun k ok hk hki hun hno => hfree k ok hk hki ?_ hno) (ready_mono hr (Ne.symm hji)) h3.1 hS' ?_⟩
      · by_cases hjk : j = k
        · subst hjk; exact hjun
        · rw [getD_set_ne true hjk] at hun; exact hun
      · rw [Array.setIfInBounds_comm _ _ hji]
        exact h3.2.2
end

/-- One order of a region's operations: 'take': only computes or reads; 'must': no other may come up; 'last': number L. -/
inductive Pl where
  | done
  | take (i : Nat) (r : Pl)
  | must (i : Nat) (r : Pl)
  | split (a b : Pl)
  | fork (i j : Nat) (a b : Pl)

def Pl.ok (ops : Array Oper) (L : Nat) : Pl → Nat → Array Bool → Bool
  | .done, _, l => (Region.ready .any ops l).isEmpty
  | .take i r, f + 1, l => (Region.ready .any ops l).contains i && Region.free .any ops l i && waits3 ops l L i && r.ok ops L f (l.setIfInBounds i true)
  | .must i r, f + 1, l => Region.ready .any ops l == [i] && r.ok ops L f (l.setIfInBounds i true)
  | .split a b, f, l => a.ok ops L f l && b.ok ops L f l
  | .fork i j a b, f + 1, l => Region.ready .any ops l == [i, j] && a.ok ops L f (l.setIfInBounds i true) && b.ok ops L f (l.setIfInBounds j true)
  | _, _, _ => false

section
variable (P : Program) (n : Nat) (l : List Oper) (Q : Exit → Act → World → Prop) (S : World → Prop) (L : Nat)
def HP (pl : Pl) (σ : Fr) (w : World) : Prop := Region.noSelect l.toArray = true → (∀ c a d v w, Q (.panic c) (Act.put a d v) w → Q (.panic c) a w) →
  ∀ fuel listed, pl.ok l.toArray L fuel listed = true → ∀ a, Ag n a σ → AnyL P l.toArray Q S L fuel listed a w
end

section
variable {P : Program} {n : Nat} {l : List Oper} {Q : Exit → Act → World → Prop} {S : World → Prop} {L : Nat} {σ : Fr} {w : World} {i j t d : Nat} {r pa pb : Pl} {o : Oper} {v : Value} {b c : Bool}

theorem CW.draw {id : Nat} (hm : P.follows .mixedOrders = true) (hs : Region.noSelect l.toArray = true) (hQ : ∀ c a d v w, Q (.panic c) (Act.put a d v) w → Q (.panic c) a w) (S : World → World → Prop) (L : Nat) (pl : Pl)
    (hok : pl.ok l.toArray L l.length (Array.replicate l.length false) = true) (h : ∀ w', Ext w w' → HP P n l Q (S w') L pl σ w') : CW P n (.region id l.toArray true) Q σ w := by
  intro a ha
  have h1 := h _ (Ext.drew w) hs hQ l.length _ hok a ha
  exact wp_region_any hm (by simpa using wpAny_of_AnyL _ _ _ _ h1)

theorem HP.done (h : NQ n Q σ w) : HP P n l Q S L .done σ w := by
  intro _ _ fuel listed hok a ha
  have hr : Region.ready .any l.toArray listed = [] := by cases fuel <;> simpa [Pl.ok] using hok
  cases fuel with
  | zero => exact ⟨hr, h a ha⟩
  | succ f => exact ⟨fun _ => h a ha, by rw [hr]; simp⟩
theorem HP.doneS {y : Code} (h : CW P n y Q σ w) : HP P n l (Exit.then (y.wp P Q) Q) S L .done σ w := HP.done (fun a ha => h a ha)

theorem Pl.ok_take {ops : Array Oper} {fuel : Nat} {listed : Array Bool} (h : (Pl.take i r).ok ops L fuel listed = true) : ∃ f, fuel = f + 1 ∧ i ∈ Region.ready .any ops listed ∧ Region.free .any ops listed i = true ∧ waits3 ops listed L i = true ∧ r.ok ops L f (listed.setIfInBounds i true) = true := by
  cases fuel with
  | zero => simp [Pl.ok] at h
  | succ f =>
    simp only [Pl.ok, Bool.and_eq_true] at h
    exact ⟨f, rfl, by simpa using h.1.1.1, h.1.1.2, h.1.2, h.2⟩

theorem HP.takeY (hi : l[i]? = some o) (hS : S w) (hy : ∀ a, Ag n a σ → YieldsIf P l.toArray S o v a) (hk : ∀ a, Ag n a σ → ∃ σ', Ag n (a.put o.dst v) σ' ∧ HP P n l Q S L r σ' w) : HP P n l Q S L (.take i r) σ w := by
  intro hs hQ fuel listed hok a ha
  obtain ⟨f, rfl, h1, h2, h3, h4⟩ := Pl.ok_take hok
  obtain ⟨σ', h5, h6⟩ := hk a ha
  have hi' : l.toArray[i]? = some o := by simpa using hi
  exact AnyL.first hi' (Region.noSelect_spec hs) hQ f listed a w h3 (Region.free_spec hi' h2) h1 (hy a ha) hS (h6 hs hQ f _ h4 _ h5)

theorem HP.take (hi : l[i]? = some o) (hg : o.guard = none) (hd : o.dst = some d) (hb : Nat.blt d n = true) (hS : S w) (h : ∀ w, S w → PV P n σ w o v) (k : HP P n l Q S L r ((d, v) :: σ) w) : HP P n l Q S L (.take i r) σ w :=
  .takeY hi hS (fun a ha => .inl ⟨by simp [Region.wanted, hg], fun w hw => h w hw a ha⟩) (fun a ha => ⟨_, by rw [hd]; exact ha.put hb v, k⟩)
theorem HP.takeG (hi : l[i]? = some o) (hg : o.guard = some (j, b)) (hj : (l[j]?).bind (·.dst) = some t) (ht : look t σ = some (.bool b)) (hd : o.dst = some d) (hb : Nat.blt d n = true) (hS : S w) (h : ∀ w, S w → PV P n σ w o v) (k : HP P n l Q S L r ((d, v) :: σ) w) : HP P n l Q S L (.take i r) σ w :=
  .takeY hi hS (fun a ha => .inl ⟨by rw [wanted_of ha hg (by simpa using hj) ht]; simp, fun w hw => h w hw a ha⟩) (fun a ha => ⟨_, by rw [hd]; exact ha.put hb v, k⟩)
theorem HP.skip (hi : l[i]? = some o) (hg : o.guard = some (j, b)) (hj : (l[j]?).bind (·.dst) = some t) (ht : look t σ = some (.bool (!b))) (hd : o.dst = some d) (hb : Nat.blt d n = true) (hS : S w) (k : HP P n l Q S L r ((d, undef) :: σ) w) : HP P n l Q S L (.take i r) σ w :=
  .takeY hi hS (fun a ha => .inr ⟨by rw [wanted_of ha hg (by simpa using hj) ht]; cases b <;> simp, rfl⟩) (fun a ha => ⟨_, by rw [hd]; exact ha.put hb undef, k⟩)

theorem HP.split (ht : look t σ = some (.bool b)) (h1 : b = true → HP P n l Q S L pa ((t, .bool true) :: σ) w) (h2 : b = false → HP P n l Q S L pb ((t, .bool false) :: σ) w) : HP P n l Q S L (.split pa pb) σ w := by
  intro hs hQ fuel listed hok a ha
  have hok : pa.ok l.toArray L fuel listed = true ∧ pb.ok l.toArray L fuel listed = true := by cases fuel <;> simpa [Pl.ok] using hok
  cases b
  · exact h2 rfl hs hQ fuel listed hok.2 a (ha.set ht)
  · exact h1 rfl hs hQ fuel listed hok.1 a (ha.set ht)
theorem HP.sub {σ' : Fr} (hs : Sub σ' σ) (h : HP P n l Q S L r σ' w) : HP P n l Q S L r σ w := fun h1 h2 f li hok a ha => h h1 h2 f li hok a (ha.sub hs)

theorem wpOp_of_OpK {K : Fr → World → Prop} {K' : Act → World → Prop} {a : Act} (hi : l[i]? = some o) (hg : o.guard = none) (h : OpK P n o σ w K) (ha : Ag n a σ) (hK : ∀ a' σ' w', Ag n a' σ' → K σ' w' → K' a' w') : wpOp P l.toArray Q i K' a w := by
  have hi' : l.toArray[i]? = some o := by simpa using hi
  unfold wpOp
  simp only [hi']
  rw [if_pos (by simp [Region.wanted, hg])]
  exact .inl (h.run a ha _ _ hK)
theorem wpOp_of_OpKG {K : Fr → World → Prop} {K' : Act → World → Prop} {a : Act} (hi : l[i]? = some o) (hg : o.guard = some (j, b)) (hj : (l[j]?).bind (·.dst) = some t) (ht : look t σ = some (.bool b)) (h : OpK P n o σ w K) (ha : Ag n a σ) (hK : ∀ a' σ' w', Ag n a' σ' → K σ' w' → K' a' w') : wpOp P l.toArray Q i K' a w := by
  have hi' : l.toArray[i]? = some o := by simpa using hi
  unfold wpOp
  simp only [hi']
  rw [if_pos (by rw [wanted_of ha hg (by simpa using hj) ht]; simp)]
  exact .inl (h.run a ha _ _ hK)

theorem HP.mustW (h : ∀ (fuel : Nat) (listed : Array Bool), r.ok l.toArray L fuel (listed.setIfInBounds i true) = true → Region.noSelect l.toArray = true → (∀ c a d v w, Q (.panic c) (Act.put a d v) w → Q (.panic c) a w) → ∀ a, Ag n a σ → wpOp P l.toArray Q i (fun a' w' => (i ≠ L → S w') ∧ AnyL P l.toArray Q S L fuel (listed.setIfInBounds i true) a' w') a w) : HP P n l Q S L (.must i r) σ w := by
  intro hs hQ fuel listed hok a ha
  cases fuel with
  | zero => simp [Pl.ok] at hok
  | succ f =>
    simp only [Pl.ok, Bool.and_eq_true, beq_iff_eq] at hok
    refine ⟨fun h0 => (by rw [hok.1] at h0; cases h0), fun j hj => ?_⟩
    rw [hok.1] at hj
    have : j = i := by simpa using hj
    subst this
    exact h f listed hok.2 hs hQ a ha

theorem HP.must (hi : l[i]? = some o) (hg : o.guard = none) (h : OpK P n o σ w (fun σ' w' => S w' ∧ HP P n l Q S L r σ' w')) : HP P n l Q S L (.must i r) σ w :=
  .mustW fun fuel _ hok hs hQ _ ha => wpOp_of_OpK hi hg h ha (fun a' _ _ h1 h2 => ⟨fun _ => h2.1, h2.2 hs hQ fuel _ hok a' h1⟩)
theorem HP.mustG (hi : l[i]? = some o) (hg : o.guard = some (j, b)) (hj : (l[j]?).bind (·.dst) = some t) (ht : look t σ = some (.bool b)) (h : OpK P n o σ w (fun σ' w' => S w' ∧ HP P n l Q S L r σ' w')) : HP P n l Q S L (.must i r) σ w :=
  .mustW fun fuel _ hok hs hQ _ ha => wpOp_of_OpKG hi hg hj ht h ha (fun a' _ _ h1 h2 => ⟨fun _ => h2.1, h2.2 hs hQ fuel _ hok a' h1⟩)
/-- Number L: S is asked no more. -/
theorem HP.last (hi : l[L]? = some o) (hg : o.guard = none) (h : OpK P n o σ w (HP P n l Q S L r)) : HP P n l Q S L (.must L r) σ w :=
  .mustW fun fuel _ hok hs hQ _ ha => wpOp_of_OpK hi hg h ha (fun a' _ _ h1 h2 => ⟨fun hn => absurd rfl hn, h2 hs hQ fuel _ hok a' h1⟩)

theorem HP.fork {oj : Oper} (hi : l[i]? = some o) (hj : l[j]? = some oj) (hg : o.guard = none) (hgj : oj.guard = none) (h1 : OpK P n o σ w (fun σ' w' => S w' ∧ HP P n l Q S L pa σ' w')) (h2 : OpK P n oj σ w (fun σ' w' => S w' ∧ HP P n l Q S L pb σ' w')) :
    HP P n l Q S L (.fork i j pa pb) σ w := by
  intro hs hQ fuel listed hok a ha
  cases fuel with
  | zero => simp [Pl.ok] at hok
  | succ f =>
    simp only [Pl.ok, Bool.and_eq_true, beq_iff_eq] at hok
    refine ⟨fun h0 => (by rw [hok.1.1] at h0; cases h0), fun k hk => ?_⟩
    rw [hok.1.1] at hk
    have : k = i ∨ k = j := by simpa using hk
    rcases this with rfl | rfl
    · exact wpOp_of_OpK hi hg h1 ha (fun a' _ _ g1 g2 => ⟨fun _ => g2.1, g2.2 hs hQ f _ hok.1.2 a' g1⟩)
    · exact wpOp_of_OpK hj hgj h2 ha (fun a' _ _ g1 g2 => ⟨fun _ => g2.1, g2.2 hs hQ f _ hok.2 a' g1⟩)

/-- The fact of an element, ahead of the operation that takes its address. -/
theorem HP.at {α : Type} {E : Enc α} {xs : List α} {kk : IntKind} {x y : Operand} {wb : World} {k : Nat} (dv : α) (_hx : ev σ x = some v) (_hy : ev σ y = some (.int kk (k : Int))) (hr : Rd E wb v xs) (hi : k < xs.length)
    (K : ∀ p cs, EP v k E.size p → Cells wb p cs → E.rep wb (xs.getD k dv) cs → HP P n l Q S L r σ w) : HP P n l Q S L r σ w := by
  obtain ⟨p, cs, h1, h2, h3⟩ := hr.at hi dv
  exact K p cs h1 h2 h3
theorem HP.atZ {α : Type} {E : Enc α} {xs : List α} {kk : IntKind} {x y : Operand} {wb : World} {z : Int} (dv : α) (_hx : ev σ x = some v) (_hy : ev σ y = some (.int kk z)) (hr : Rd E wb v xs) (hz : 0 ≤ z ∧ z < xs.length)
    (K : ∀ p cs, EP v z.toNat E.size p → z = (z.toNat : Int) → Cells wb p cs → E.rep wb (xs.getD z.toNat dv) cs → HP P n l Q S L r σ w) : HP P n l Q S L r σ w := by
  obtain ⟨p, cs, h1, h2, h3⟩ := hr.at (i := z.toNat) (by omega) dv
  exact K p cs h1 (by omega) h2 h3
end
end Go.WX
