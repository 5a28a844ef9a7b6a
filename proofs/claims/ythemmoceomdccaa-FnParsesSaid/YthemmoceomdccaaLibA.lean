/- A library of small laws for walking translated Go text: frames as association lists, one law an operation, whatever the program. No condition. -/
import Derived.WalkKit
import Derived.OrdersHeld
import Derived.KernelRfl
namespace Go.WX
open Go

abbrev Fr := List (Nat × Value)

def look (k : Nat) : Fr → Option Value
  | [] => none
  | (d, v) :: r => bif Nat.beq k d then some v else look k r

def ev (σ : Fr) : Operand → Option Value
  | .tmp t => look t σ
  | .const v => some v
  | .global g => some (.pointer (some ⟨g, 0, none⟩))
  | .func f => some (.func (.func f) #[] #[])

def evs (σ : Fr) : List Operand → Option (List Value)
  | [] => some []
  | x :: r => match ev σ x, evs σ r with
    | some v, some vs => some (v :: vs)
    | _, _ => none

structure Ag (n : Nat) (a : Act) (σ : Fr) : Prop where
  size : a.tmps.size = n
  defers : a.defers = []
  get : ∀ k v, look k σ = some v → a.tmps[k]? = some v

theorem Ag.eval {n : Nat} {a : Act} {σ : Fr} (h : Ag n a σ) {x : Operand} {v : Value} (hx : ev σ x = some v) : a.eval x = v := by
  cases x with
  | tmp t =>
    have := h.get t v hx
    simp [Act.eval, Array.getD_eq_getD_getElem?, this]
  | const c => simp only [ev, Option.some.injEq] at hx; exact hx
  | global g => simp only [ev, Option.some.injEq] at hx; exact hx
  | func f => simp only [ev, Option.some.injEq] at hx; exact hx

theorem Ag.evals {n : Nat} {a : Act} {σ : Fr} (h : Ag n a σ) : ∀ {xs : List Operand} {vs : List Value}, evs σ xs = some vs → xs.map a.eval = vs
  | [], vs, hx => by simp [evs] at hx; simp [hx]
  | x :: r, vs, hx => by
    simp only [evs] at hx
    split at hx
    · rename_i v vs' hv hvs
      simp at hx; subst hx
      simp [h.eval hv, h.evals hvs]
    · simp at hx

theorem nbeq {k d : Nat} : Nat.beq k d = decide (k = d) := by
  rw [Bool.eq_iff_iff]; simp [Nat.beq_eq]

theorem Ag.put {n : Nat} {a : Act} {σ : Fr} (h : Ag n a σ) {d : Nat} (hd : Nat.blt d n = true) (v : Value) : Ag n (a.put (some d) v) ((d, v) :: σ) := by
  have hd : d < n := by simpa [Nat.blt_eq] using hd
  refine ⟨by simp [Act.put, h.size], by simp [Act.put, h.defers], fun k u hk => ?_⟩
  simp only [look, nbeq] at hk
  by_cases e : k = d
  · subst e
    simp at hk; subst hk
    simp [Act.put, h.size, hd]
  · simp [e] at hk
    have := h.get k u hk
    simp only [Act.put]
    rw [Array.getElem?_setIfInBounds_ne (by omega)]
    exact this

theorem Ag.putNone {n : Nat} {a : Act} {σ : Fr} (h : Ag n a σ) (v : Value) : Ag n (a.put none v) σ := h

/-- σ' says no more than σ. -/
def Sub : Fr → Fr → Prop
  | [], _ => True
  | (k, v) :: r, σ => look k σ = some v ∧ Sub r σ

theorem Sub.look {σ : Fr} : ∀ {σ' : Fr}, Sub σ' σ → ∀ k v, look k σ' = some v → WX.look k σ = some v
  | [], _, k, v, h => by simp [WX.look] at h
  | (d, u) :: r, hs, k, v, h => by
    simp only [WX.look, nbeq] at h
    by_cases e : k = d
    · subst e; simp at h; subst h; exact hs.1
    · simp [e] at h; exact hs.2.look k v h

theorem Ag.sub {n : Nat} {a : Act} {σ σ' : Fr} (h : Ag n a σ) (hs : Sub σ' σ) : Ag n a σ' := ⟨h.size, h.defers, fun k v hk => h.get k v (hs.look k v hk)⟩

theorem Ag.set {n : Nat} {a : Act} {σ : Fr} (h : Ag n a σ) {t : Nat} {v : Value} (ht : look t σ = some v) : Ag n a ((t, v) :: σ) :=
  ⟨h.size, h.defers, fun k u hk => by
    simp only [look, nbeq] at hk
    by_cases e : k = t
    · subst e; simp at hk; subst hk; exact h.get _ _ ht
    · simp [e] at hk; exact h.get k u hk⟩

/-! ### Judgements -/
section
variable (P : Program) (n : Nat)

def WL (ops : Array Oper) (Q : Exit → Act → World → Prop) (l : List Oper) (σ : Fr) (w : World) : Prop := ∀ a, Ag n a σ → wpList P ops Q l a w
def CW (c : Code) (Q : Exit → Act → World → Prop) (σ : Fr) (w : World) : Prop := ∀ a, Ag n a σ → c.wp P Q a w
def NQ (Q : Exit → Act → World → Prop) (σ : Fr) (w : World) : Prop := ∀ a, Ag n a σ → Q .normal a w
def XQ (id : Nat) (Q : Exit → Act → World → Prop) (σ : Fr) (w : World) : Prop := ∀ a, Ag n a σ → Q (.exit id) a w
def RQ (Q : Exit → Act → World → Prop) (σ : Fr) (w : World) : Prop := ∀ a, Ag n a σ → Q .ret a w
structure OpK (o : Oper) (σ : Fr) (w : World) (K : Fr → World → Prop) : Prop where
  run : ∀ a, Ag n a σ → ∀ (K' : Act → World → Prop) (Q' : Exit → Act → World → Prop), (∀ a' σ' w', Ag n a' σ' → K σ' w' → K' a' w') → o.wp P a w K' Q'
def PV (σ : Fr) (w : World) (o : Oper) (v : Value) : Prop := ∀ a, Ag n a σ → (execOp a.eval o).run P w = .ok (.value v) w
end

/-! ### Lists of operations -/
section
variable {P : Program} {n : Nat} {ops : Array Oper} {Q : Exit → Act → World → Prop} {rest : List Oper} {o : Oper} {σ : Fr} {w : World} {v : Value} {d t j : Nat} {b : Bool}

theorem OpK.mono {K K' : Fr → World → Prop} (h : OpK P n o σ w K) (hk : ∀ σ w, K σ w → K' σ w) : OpK P n o σ w K' :=
  ⟨fun a ha K1 Q1 h1 => h.run a ha K1 Q1 (fun a' σ' w' g k => h1 a' σ' w' g (hk _ _ k))⟩

theorem OpK.pure (hd : o.dst = some d) (hb : Nat.blt d n = true) (h : PV P n σ w o v) {K : Fr → World → Prop} (k : K ((d, v) :: σ) w) : OpK P n o σ w K := by
  constructor
  intro a ha K' Q' hK
  simp only [Oper.wp, h a ha, Oper.upon, hd]
  exact hK _ _ _ (ha.put hb v) k

theorem WL.op (hg : o.guard = none) (h : OpK P n o σ w (WL P n ops Q rest)) : WL P n ops Q (o :: rest) σ w := by
  intro a ha
  unfold wpList
  rw [if_pos (by simp [Region.wanted, hg])]
  exact .inl (h.run a ha _ _ (fun a' σ' w' h1 h2 => h2 a' h1))

theorem WL.pure (hg : o.guard = none) (hd : o.dst = some d) (hb : Nat.blt d n = true) (h : PV P n σ w o v) (k : WL P n ops Q rest ((d, v) :: σ) w) :
    WL P n ops Q (o :: rest) σ w := .op hg (.pure hd hb h k)

theorem wanted_of {a : Act} {c : Bool} (ha : Ag n a σ) (hg : o.guard = some (j, b)) (hj : (ops[j]?).bind (·.dst) = some t) (ht : look t σ = some (.bool c)) : Region.wanted o (yielded ops a.tmps) = (c == b) := by
  have := ha.get t _ ht
  simp [Region.wanted, hg, yielded, hj, this]

theorem WL.opG (hg : o.guard = some (j, b)) (hj : (ops[j]?).bind (·.dst) = some t) (ht : look t σ = some (.bool b)) (h : OpK P n o σ w (WL P n ops Q rest)) :
    WL P n ops Q (o :: rest) σ w := by
  intro a ha
  unfold wpList
  rw [if_pos (by rw [wanted_of ha hg hj ht]; simp)]
  exact .inl (h.run a ha _ _ (fun a' σ' w' h1 h2 => h2 a' h1))

theorem WL.pureG (hg : o.guard = some (j, b)) (hj : (ops[j]?).bind (·.dst) = some t) (ht : look t σ = some (.bool b)) (hd : o.dst = some d) (hb : Nat.blt d n = true) (h : PV P n σ w o v)
    (k : WL P n ops Q rest ((d, v) :: σ) w) : WL P n ops Q (o :: rest) σ w := .opG hg hj ht (.pure hd hb h k)

theorem WL.skip (hg : o.guard = some (j, b)) (hj : (ops[j]?).bind (·.dst) = some t) (ht : look t σ = some (.bool (!b))) (hd : o.dst = some d) (hb : Nat.blt d n = true)
    (k : WL P n ops Q rest ((d, undef) :: σ) w) : WL P n ops Q (o :: rest) σ w := by
  intro a ha
  unfold wpList
  rw [if_neg (by rw [wanted_of ha hg hj ht]; cases b <;> simp), hd]
  exact k _ (ha.put hb _)

theorem WL.skipN (hg : o.guard = some (j, b)) (hj : (ops[j]?).bind (·.dst) = some t) (ht : look t σ = some (.bool (!b))) (hd : o.dst = none)
    (k : WL P n ops Q rest σ w) : WL P n ops Q (o :: rest) σ w := by
  intro a ha
  unfold wpList
  rw [if_neg (by rw [wanted_of ha hg hj ht]; cases b <;> simp), hd]
  exact k _ ha

theorem WL.split {l : List Oper} (ht : look t σ = some (.bool b)) (h1 : b = true → WL P n ops Q l ((t, .bool true) :: σ) w) (h2 : b = false → WL P n ops Q l ((t, .bool false) :: σ) w) :
    WL P n ops Q l σ w := by
  intro a ha
  cases b
  · exact h2 rfl a (ha.set ht)
  · exact h1 rfl a (ha.set ht)

theorem WL.sub {l : List Oper} {σ' : Fr} (hs : Sub σ' σ) (h : WL P n ops Q l σ' w) : WL P n ops Q l σ w := fun a ha => h a (ha.sub hs)

theorem WL.nil (h : NQ n Q σ w) : WL P n ops Q [] σ w := fun a ha => h a ha
theorem WL.nilS {y : Code} (h : CW P n y Q σ w) : WL P n ops (Exit.then (y.wp P Q) Q) [] σ w := fun a ha => h a ha

/-! ### Code -/
theorem CW.sub {c : Code} {σ' : Fr} (hs : Sub σ' σ) (h : CW P n c Q σ' w) : CW P n c Q σ w := fun a ha => h a (ha.sub hs)
theorem CW.reg {id : Nat} {l : List Oper} (h : WL P n l.toArray Q l σ w) : CW P n (.region id l.toArray false) Q σ w := fun a ha => wp_region_lit (h a ha)
theorem CW.seq {x y : Code} (h : CW P n x (Exit.then (y.wp P Q) Q) σ w) : CW P n (.seq x y) Q σ w := fun a ha => wp_seq (h a ha)
theorem CW.skip (h : NQ n Q σ w) : CW P n .skip Q σ w := fun a ha => wp_skip (h a ha)
theorem CW.skipS {y : Code} (h : CW P n y Q σ w) : CW P n .skip (Exit.then (y.wp P Q) Q) σ w := fun a ha => wp_skip (h a ha)
theorem CW.exit {id : Nat} (h : XQ n id Q σ w) : CW P n (.exit id) Q σ w := fun a ha => wp_exit (h a ha)
theorem CW.ret (h : RQ n Q σ w) : CW P n .ret Q σ w := fun a ha => wp_ret (h a ha)
theorem CW.block {id : Nat} {c : Code} (h : CW P n c (Exit.inBlock id Q) σ w) : CW P n (.block id c) Q σ w := fun a ha => wp_block (h a ha)
theorem CW.cond {x y : Code} {c : Operand} (hc : ev σ c = some (.bool b)) (h1 : b = true → CW P n x Q σ w) (h2 : b = false → CW P n y Q σ w) : CW P n (.cond c x y) Q σ w :=
  fun a ha => wp_cond_split (ha.eval hc) (fun e => h1 e a ha) (fun e => h2 e a ha)
theorem CW.condT {x y : Code} {c : Operand} (hc : ev σ c = some (.bool true)) (h : CW P n x Q σ w) : CW P n (.cond c x y) Q σ w := fun a ha => wp_cond_true (ha.eval hc) (h a ha)
theorem CW.condF {x y : Code} {c : Operand} (hc : ev σ c = some (.bool false)) (h : CW P n y Q σ w) : CW P n (.cond c x y) Q σ w := fun a ha => wp_cond_false (ha.eval hc) (h a ha)

theorem NQ.sub {σ' : Fr} (hs : Sub σ' σ) (h : NQ n Q σ' w) : NQ n Q σ w := fun a ha => h a (ha.sub hs)
theorem NQ.then {y : Code} (h : CW P n y Q σ w) : NQ n (Exit.then (y.wp P Q) Q) σ w := fun a ha => h a ha
theorem NQ.block {id : Nat} (h : NQ n Q σ w) : NQ n (Exit.inBlock id Q) σ w := fun a ha => h a ha
theorem XQ.then {id : Nat} {K : Act → World → Prop} (h : XQ n id Q σ w) : XQ n id (Exit.then K Q) σ w := fun a ha => h a ha
theorem XQ.here {id : Nat} (h : NQ n Q σ w) : XQ n id (Exit.inBlock id Q) σ w := fun a ha => by simp only [Exit.inBlock, if_true]; exact h a ha
theorem XQ.pass {id id' : Nat} (hne : Nat.beq id id' = false) (h : XQ n id Q σ w) : XQ n id (Exit.inBlock id' Q) σ w := fun a ha => by
  have : ¬ id = id' := by simpa [nbeq] using hne
  simp only [Exit.inBlock, this, if_false]; exact h a ha
theorem RQ.then {K : Act → World → Prop} (h : RQ n Q σ w) : RQ n (Exit.then K Q) σ w := fun a ha => h a ha
theorem RQ.block {id : Nat} (h : RQ n Q σ w) : RQ n (Exit.inBlock id Q) σ w := fun a ha => h a ha
end

/-! ### A loop: a relation over the slots that turn, the world, and a measure -/
section
variable {P : Program} {n : Nat} {Q : Exit → Act → World → Prop} {σ : Fr} {w : World}

theorem wp_loop_ex {c : Code} {a : Act} (I : Act → World → Nat → Prop) (h₀ : ∃ m, I a w m)
    (round : ∀ a w m, I a w m → c.wp P (Exit.then (fun a' w' => ∃ m', I a' w' m' ∧ m' < m) Q) a w) : (Code.loop c).wp P Q a w := by
  classical
  let μ : Act → World → Nat := fun a w => if h : ∃ m, I a w m then Classical.choose (p := fun m => I a w m ∧ ∀ m', I a w m' → m ≤ m')
    (by
      obtain ⟨m, hm⟩ := h
      induction m using Nat.strongRecOn with
      | _ m ih =>
        by_cases hlt : ∃ m', m' < m ∧ I a w m'
        · obtain ⟨m', h1, h2⟩ := hlt; exact ih m' h1 h2
        · exact ⟨m, hm, fun m' h' => Nat.le_of_not_lt fun hl => hlt ⟨m', hl, h'⟩⟩) else 0
  have hμ : ∀ a w, (∃ m, I a w m) → I a w (μ a w) ∧ ∀ m', I a w m' → μ a w ≤ m' := by
    intro a w h
    simp only [μ, h, dite_true]
    exact Classical.choose_spec (p := fun m => I a w m ∧ ∀ m', I a w m' → m ≤ m') _
  refine wp_loop (fun a w => ∃ m, I a w m) μ h₀ (fun a w hI => ?_)
  refine wp_mono (round a w _ (hμ a w hI).1) (fun e a' w' hq => ?_)
  cases e <;> first
    | exact hq
    | (obtain ⟨m', h1, h2⟩ := hq
       exact ⟨⟨m', h1⟩, Nat.lt_of_le_of_lt ((hμ a' w' ⟨m', h1⟩).2 _ h1) h2⟩)

/-- What a round must come to. -/
def Nx (J : Fr → World → Nat → Prop) (σk : Fr) (n m : Nat) : Act → World → Prop := fun a' w' => ∃ ρ m', Ag n a' (ρ ++ σk) ∧ J ρ w' m' ∧ m' < m

theorem CW.loop {c : Code} {σk : Fr} (J : Fr → World → Nat → Prop) {ρ₀ : Fr} {m₀ : Nat} (hs : Sub (ρ₀ ++ σk) σ) (h₀ : J ρ₀ w m₀)
    (round : ∀ ρ w m, J ρ w m → CW P n c (Exit.then (Nx J σk n m) Q) (ρ ++ σk) w) : CW P n (.loop c) Q σ w := by
  intro a ha
  refine wp_loop_ex (fun a w m => ∃ ρ, Ag n a (ρ ++ σk) ∧ J ρ w m) ⟨m₀, ρ₀, ha.sub hs, h₀⟩ (fun a w m ⟨ρ, h1, h2⟩ => ?_)
  refine wp_mono (round ρ w m h2 a h1) (fun e a' w' hq => ?_)
  cases e <;> first
    | exact hq
    | (obtain ⟨ρ', m', h3, h4, h5⟩ := hq
       exact ⟨m', ⟨ρ', h3, h4⟩, h5⟩)

/-- The round's end. -/
theorem NQ.next {J : Fr → World → Nat → Prop} {σk : Fr} {m : Nat} {ρ : Fr} (hs : Sub (ρ ++ σk) σ) (h : ∃ m', J ρ w m' ∧ m' < m) : NQ n (Exit.then (Nx J σk n m) Q) σ w :=
  fun _ ha => let ⟨m', h1, h2⟩ := h; ⟨ρ, m', ha.sub hs, h1, h2⟩
end

/-! ### A call's beginning and its end -/
section
variable {P : Program} {n : Nat} {σ : Fr} {w : World}

/-- The arguments' slots, from slot k on. -/
def slots : Nat → List Value → Fr
  | _, [] => []
  | k, v :: r => (k, v) :: slots (k + 1) r

theorem look_slots : ∀ (l : List Value) (s k : Nat) (v : Value), look k (slots s l) = some v → s ≤ k ∧ l[k - s]? = some v
  | [], s, k, v, h => by simp [slots, look] at h
  | u :: r, s, k, v, h => by
    simp only [slots, look, nbeq] at h
    by_cases e : k = s
    · subst e; simp at h; subst h; simp
    · simp [e] at h
      obtain ⟨h1, h2⟩ := look_slots r (s + 1) k v h
      refine ⟨by omega, ?_⟩
      have : k - s = (k - (s + 1)) + 1 := by omega
      rw [this]; simpa using h2

/-- The post of a function's body, 'False' wherever it does not return. -/
def RP (P : Program) (rs : Array ResultVar) (R : Value → World → Prop) : Exit → Act → World → Prop
  | .normal, a, w | .ret, a, w => a.defers = [] ∧ ∃ v, (∀ fn : Func, fn.results = rs → (results fn a.tmps).run P w = .ok v w) ∧ R v w
  | _, _, _ => False

/-- A call that returns, and nothing else. -/
def Ret1 (R : Value → World → Prop) : Ending → World → Prop
  | .returned v, w => R v w
  | _, _ => False

theorem callsOf {f : FuncId} {fn : Func} {c : Code} {rs : Array ResultVar} {vs : List Value} {R : Value → World → Prop} (hf : P.funcs[f]? = some fn) (hb : fn.body = some c) (hn : fn.ntmps = n) (hrs : fn.results = rs)
    (hs : Nat.ble vs.length n = true) (h : CW P n c (RP P rs R) (slots 0 vs) w) : Calls P f vs.toArray w (Ret1 R) := by
  refine calls_of_wp hf hb (wp_mono (h _ ⟨?_, rfl, ?_⟩) ?_)
  · have : vs.length ≤ n := by simpa using hs
    simp [hn]; omega
  · intro k v hk
    obtain ⟨h1, h2⟩ := look_slots vs 0 k v hk
    have hl : k < vs.length := (List.getElem?_eq_some_iff.1 h2).1
    simp only [hn]
    rw [Array.getElem?_append_left (by simpa using hl)]
    simpa using h2
  · intro e a w' hq
    cases e <;> first
      | exact hq.elim
      | (obtain ⟨hd, v, hv, hR⟩ := hq
         exact ⟨hd, v, hv fn hrs, hR⟩)

theorem RQ.r0 {R : Value → World → Prop} (h : R (.tuple #[]) w) : RQ n (RP P #[] R) σ w := fun _ ha => ⟨ha.defers, _, fun _ hfn => results_none hfn _ _ _, h⟩
theorem NQ.r0 {R : Value → World → Prop} (h : R (.tuple #[]) w) : NQ n (RP P #[] R) σ w := fun _ ha => ⟨ha.defers, _, fun _ hfn => results_none hfn _ _ _, h⟩
theorem RQ.r1 {R : Value → World → Prop} {t : Nat} {v : Value} (ht : look t σ = some v) (h : R v w) : RQ n (RP P #[.tmp t] R) σ w := fun _ ha =>
  ⟨ha.defers, v, fun _ hfn => by rw [results_tmp hfn]; simp [Array.getD_eq_getD_getElem?, ha.get _ _ ht], h⟩
theorem RQ.r2 {R : Value → World → Prop} {t u : Nat} {v v2 : Value} (ht : look t σ = some v) (hu : look u σ = some v2) (h : R (.tuple #[v, v2]) w) : RQ n (RP P #[.tmp t, .tmp u] R) σ w := fun _ ha =>
  ⟨ha.defers, _, fun _ hfn => by rw [results_tmp2 hfn]; simp [Array.getD_eq_getD_getElem?, ha.get _ _ ht, ha.get _ _ hu], h⟩
end
end Go.WX
namespace Go.WX
/-! Laws of 'simp only' under short names. -/
theorem nq1 {p : Prop} [Decidable p] : (decide p = true) = p := decide_eq_true_eq
theorem nq2 {p : Prop} [Decidable p] : (decide p = false) ↔ ¬ p := decide_eq_false_iff_not
theorem nq3 (b : Bool) : ((!b) = true) = (b = false) := Bool.not_eq_true' b
theorem nq4 (b : Bool) : ((!b) = false) = (b = true) := Bool.not_eq_false' b
theorem nq5 {a b : Int} : ¬ a < b ↔ b ≤ a := Int.not_lt
theorem nq6 {a b : Int} : ¬ a ≤ b ↔ b < a := Int.not_le
theorem nq7 {p : Prop} : ¬¬ p ↔ p := Classical.not_not
theorem nq8 {a b : Bool} : ((!a) = b) ↔ (a = !b) := Bool.not_eq_eq_eq_not
theorem nq9 : (!true) = false := rfl
theorem nqa : (!false) = true := rfl
theorem nq : (∀ (p : Prop) [Decidable p], (decide p = true) = p) ∧ (∀ (p : Prop) [Decidable p], (decide p = false) ↔ ¬ p) ∧ (∀ b : Bool, ((!b) = true) = (b = false)) ∧ (∀ b : Bool, ((!b) = false) = (b = true)) ∧
    (∀ a b : Bool, ((!a) = b) ↔ (a = !b)) ∧ ((!true) = false) ∧ ((!false) = true) ∧ (∀ a b : Int, ¬ a < b ↔ b ≤ a) ∧ (∀ a b : Int, ¬ a ≤ b ↔ b < a) ∧ (∀ p : Prop, ¬¬ p ↔ p) ∧
    (∀ (α : Type) [BEq α] [LawfulBEq α] (a b : α), (a == b) = true ↔ a = b) ∧ (∀ (α : Type) [BEq α] [LawfulBEq α] (a b : α), (a == b) = false ↔ a ≠ b) :=
  ⟨fun _ _ => nq1, fun _ _ => nq2, nq3, nq4, fun _ _ => nq8, rfl, rfl, fun _ _ => nq5, fun _ _ => nq6, fun _ => nq7, fun _ _ _ _ _ => beq_iff_eq, fun _ _ _ _ _ => beq_eq_false_iff_ne⟩
end Go.WX
