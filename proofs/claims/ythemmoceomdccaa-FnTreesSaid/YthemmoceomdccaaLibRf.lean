/- Ranges over a function: a round's body is walked by the same laws; the mark on the deferred calls is taken up at the return; calls of function values. No condition. -/
import Derived.Test.YthemmoceomdccaaLibH
import Derived.Test.YthemmoceomdccaaLibJ
import Derived.RangeFuncIn
import Derived.RangeFuncRecord
import Derived.RangeFuncLeaves
import Derived.RangeFuncOwn
import Derived.RangeFuncCalls
import Derived.OrdersIn
import Derived.TacticsIn
namespace Go.WX
open Go

/-! ### In a round's frame -/
abbrev RF (l : Nat) : Fence := Fence.wide.inRound l
def ndB (o : Oper) : Bool := match o.op with
  | .defer _ => false
  | _ => true
theorem nd_of {o : Oper} (h : ndB o = true) : ∀ c, o.op ≠ .defer c := fun c e => by simp [ndB, e] at h
section
variable {P : Program} {ops : Array Oper} {Q : Exit → Act → World → Prop} {a : Act} {w : World} {l0 : Nat}
theorem oper_in {o : Oper} (hd : ndB o = true) {K : Act → World → Prop} (h : o.wp P a w K Q) : o.wpIn (RF l0) 0 P a w K Q := by
  refine ⟨fun _ _ => trivial, ?_⟩
  rw [Fence.inRound_round, Oper.semAt_some _ _ _ (nd_of hd)]
  unfold Oper.wp at h
  generalize (execOp a.eval o).run P w = r at h
  have hn : (RF l0).depth.isSome = true → 1 ≤ 0 := fun hh => by simp [Fence.wide] at hh
  cases r with
  | ok x w' =>
    cases x <;> simp only [Oper.upon] at h
    all_goals first
      | exact h
      | exact ⟨hn, CallsIn.inRound l0 ((callsIn_wide (n := 0 - 1)).2 h)⟩
      | exact ⟨hn, fun c cs _ => let ⟨v, w', r, s⟩ := h c cs; ⟨v, w', r, stepsIn_wide.2 s⟩⟩
  | halt x w' => cases x <;> simp only [Oper.upon] at h <;> exact h
def NoOut (Q : Exit → Act → World → Prop) : Prop := ¬ LetsOut Q
theorem NoOut.then {K : Act → World → Prop} (h : NoOut Q) : NoOut (Exit.then K Q) := fun ⟨a, w, hq⟩ => h ⟨a, w, hq⟩
theorem NoOut.fl : NoOut (fun _ _ _ => False) := fun ⟨_, _, h⟩ => h
theorem NoOut.block {id : Nat} (h : NoOut Q) : NoOut (Exit.inBlock id Q) := fun ⟨a, w, hq⟩ => h ⟨a, w, hq⟩
theorem list_in (hn : NoOut Q) : ∀ (l : List Oper) (a : Act) (w : World), l.all ndB = true → wpList P ops Q l a w → wpListIn (RF l0) 0 P ops Q l a w
  | [], _, _, _, h => h
  | o :: r, a, w, hd, h => by
    simp only [List.all_cons, Bool.and_eq_true] at hd
    unfold wpList at h
    unfold wpListIn
    split
    · rename_i hw
      rw [if_pos hw] at h
      rcases h with h | ⟨_, h⟩
      · exact oper_in hd.1 (Oper.wp_mono (fun a w => list_in hn r a w hd.2) h)
      · exact absurd h hn
    · rename_i hw
      rw [if_neg hw] at h
      exact ⟨fun _ _ => trivial, list_in hn r _ _ hd.2 h⟩
theorem op_in (hn : NoOut Q) {i : Nat} (hd : ops.all ndB = true) {K : Act → World → Prop} (h : wpOp P ops Q i K a w) : wpOpIn (RF l0) 0 P ops Q i K a w := by
  unfold wpOp at h
  unfold wpOpIn
  cases ho : ops[i]? with
  | none => rw [ho] at h; exact h
  | some o =>
    rw [ho] at h
    simp only at h ⊢
    have hdo : ndB o = true := by
      obtain ⟨hi, rfl⟩ := Array.getElem?_eq_some_iff.1 ho
      exact Array.all_eq_true.1 hd i hi
    split
    · rename_i hw
      rw [if_pos hw] at h
      rcases h with h | ⟨_, h⟩
      · exact oper_in hdo h
      · exact absurd h hn
    · rename_i hw
      rw [if_neg hw] at h
      exact ⟨fun _ _ => trivial, h⟩
theorem any_in (hn : NoOut Q) (hd : ops.all ndB = true) : ∀ (fuel : Nat) (listed : Array Bool) (a : Act) (w : World), wpAny P .any ops Q fuel listed a w → wpAnyIn (RF l0) 0 P .any ops Q fuel listed a w
  | 0, _, _, _, h => h
  | fuel + 1, listed, a, w, h => ⟨h.1, fun i hi => op_in hn hd (wpOp_mono (fun a w => any_in hn hd fuel _ a w) (h.2 i hi))⟩
end

def CWr (P : Program) (n l0 : Nat) (c : Code) (Q : Exit → Act → World → Prop) (σ : Fr) (w : World) : Prop := ∀ a, Ag n a σ → c.wpIn (RF l0) 0 P Q a w
section
variable {P : Program} {n l0 : Nat} {Q : Exit → Act → World → Prop} {σ : Fr} {w : World} {b : Bool}
theorem CWr.reg {id : Nat} {l : List Oper} (hn : NoOut Q) (hd : l.all ndB = true) (h : WL P n l.toArray Q l σ w) : CWr P n l0 (.region id l.toArray false) Q σ w := fun a ha => wpIn_region_lit (list_in hn l a w hd (h a ha))
theorem CWr.draw {id : Nat} {l : List Oper} (hn : NoOut Q) (hd : l.toArray.all ndB = true) (hm : P.follows .mixedOrders = true) (hs : Region.noSelect l.toArray = true) (hQ : ∀ c a d v w, Q (.panic c) (Act.put a d v) w → Q (.panic c) a w) (S : World → World → Prop) (L : Nat) (pl : Pl)
    (hok : pl.ok l.toArray L l.length (Array.replicate l.length false) = true) (h : ∀ w', Ext w w' → HP P n l Q (S w') L pl σ w') : CWr P n l0 (.region id l.toArray true) Q σ w := by
  intro a ha
  have h1 := h _ (Ext.drew w) hs hQ l.length _ hok a ha
  exact wpIn_region_any hm (any_in hn hd _ _ _ _ (by simpa using wpAny_of_AnyL _ _ _ _ h1))
theorem CWr.seq {x y : Code} (h : CWr P n l0 x (Exit.then (y.wpIn (RF l0) 0 P Q) Q) σ w) : CWr P n l0 (.seq x y) Q σ w := fun a ha => wpIn_seq (h a ha)
theorem CWr.skip (h : NQ n Q σ w) : CWr P n l0 .skip Q σ w := fun a ha => wpIn_skip (h a ha)
theorem CWr.skipS {y : Code} (h : CWr P n l0 y Q σ w) : CWr P n l0 .skip (Exit.then (y.wpIn (RF l0) 0 P Q) Q) σ w := fun a ha => wpIn_skip (h a ha)
theorem CWr.exit {id : Nat} (h : XQ n id Q σ w) : CWr P n l0 (.exit id) Q σ w := fun a ha => wpIn_exit (h a ha)
theorem CWr.block {id : Nat} {c : Code} (h : CWr P n l0 c (Exit.inBlock id Q) σ w) : CWr P n l0 (.block id c) Q σ w := fun a ha => wpIn_block (h a ha)
theorem CWr.cond {x y : Code} {c : Operand} (hc : ev σ c = some (.bool b)) (h1 : b = true → CWr P n l0 x Q σ w) (h2 : b = false → CWr P n l0 y Q σ w) : CWr P n l0 (.cond c x y) Q σ w := fun a ha => by
  cases b
  · exact wpIn_cond_false (ha.eval hc) (h2 rfl a ha)
  · exact wpIn_cond_true (ha.eval hc) (h1 rfl a ha)
theorem CWr.condT {x y : Code} {c : Operand} (hc : ev σ c = some (.bool true)) (h : CWr P n l0 x Q σ w) : CWr P n l0 (.cond c x y) Q σ w := fun a ha => wpIn_cond_true (ha.eval hc) (h a ha)
theorem CWr.condF {x y : Code} {c : Operand} (hc : ev σ c = some (.bool false)) (h : CWr P n l0 y Q σ w) : CWr P n l0 (.cond c x y) Q σ w := fun a ha => wpIn_cond_false (ha.eval hc) (h a ha)
theorem NQ.thenr {y : Code} (h : CWr P n l0 y Q σ w) : NQ n (Exit.then (y.wpIn (RF l0) 0 P Q) Q) σ w := fun a ha => h a ha
theorem WL.nilSr {ops : Array Oper} {y : Code} (h : CWr P n l0 y Q σ w) : WL P n ops (Exit.then (y.wpIn (RF l0) 0 P Q) Q) [] σ w := fun a ha => h a ha
theorem HP.doneSr {l : List Oper} {S : World → Prop} {L : Nat} {y : Code} (h : CWr P n l0 y Q σ w) : HP P n l (Exit.then (y.wpIn (RF l0) 0 P Q) Q) S L .done σ w := HP.done (fun a ha => h a ha)
end

/-! ### The statement -/
/-- Whatever holds no cells and lies at or behind B may turn. -/
def Abd (B : Nat) (J : World → Prop) : Prop := ∀ W W' row, J W → W.grownBy W' row → (∀ r, row = some r → B ≤ r ∧ ∃ o : Obj, W.heap[r]? = some o ∧ o.isCells = false) → J W'
def rfPost (J : World → Prop) (W : World) : Exit → Act → World → Prop
  | .normal, _, W' => KeepsOthers W W' ∧ J W'
  | _, _, _ => False
theorem NoOut.rf {J : World → Prop} {W : World} : NoOut (rfPost J W) := fun ⟨_, _, h⟩ => h
/-- At the statement's end: the mark stands on the deferred calls. -/
structure Agd (n D : Nat) (a : Act) (σ : Fr) : Prop where
  ag : Ag n { a with defers := [] } σ
  ds : a.defers = [{ target := .collected D, args := #[] }]
def NQd (n D : Nat) (Q : Exit → Act → World → Prop) (σ : Fr) (w : World) : Prop := ∀ a, Agd n D a σ → Q .normal a w
section
variable {P : Program} {n : Nat} {Q : Exit → Act → World → Prop} {σ : Fr} {w : World}
theorem abd_put {J : World → Prop} {B l : Nat} (h : Abd B J) {W : World} (hs : J W) {o : Obj} (o' : Obj) (hB : B ≤ l) (hl : W.heap[l]? = some o) (ho : o.isCells = false) : J (W.putObj l o') :=
  h W _ (some l) hs (grownBy_putObj' W l o') (fun r e => by cases e; exact ⟨hB, o, hl, ho⟩)
theorem abd_alloc {J : World → Prop} {B : Nat} (h : Abd B J) {W : World} (hs : J W) (o : Obj) : J (W.alloc o) := h W _ none hs (World.grownBy_alloc W o none) (fun r e => by cases e)

theorem CW.rangeFunc {g : Operand} {t1 t2 gf : Nat} {lb : List Value} {assign body : Code} (hg : ev σ g = some (.func (.func gf) #[] lb.toArray)) (hf : cfOf P gf = true) (ht1 : Nat.blt t1 n = true) (ht2 : Nat.blt t2 n = true)
    (N : Nat) (x y : Nat → Value) (J : Nat → World → Prop) (hJ : ∀ k, Abd w.heap.size (J k)) (h0 : J 0 w)
    (hit : ∀ (l : Nat) (J' : Nat → World → Prop) (W : World), (∀ k W1, J' k W1 → J k W1) → (∀ k W1, k < N → J' k W1 → YieldAt Fence.wide 0 P l #[x k, y k] W1 (fun e W' => e = .returned (.bool true) ∧ J' (k + 1) W')) → J' 0 W →
      Calls P gf (#[.func (.yield l) #[] #[]] ++ lb.toArray) W (Ret1 (fun _ W' => J' N W')))
    (ρ1 : Nat → Fr) (hassign : ∀ (l k : Nat) (W : World) (K : Act → World → Prop), (∀ a1, Ag n a1 (ρ1 k ++ σ) → K a1 W) → CWr P n l assign (Exit.then K (fun _ _ _ => False)) ((t2, y k) :: (t1, x k) :: σ) W)
    (hbody : ∀ (l k : Nat) (W : World), k < N → J k W → CWr P n l body (rfPost (J (k + 1)) W) (ρ1 k ++ σ) W)
    (hdone : ∀ (W : World) (D : Nat), w.heap.size ≤ D → J N W → W.heap[D]? = some (.deferred (some [])) → NQd n D Q σ W) : CW P n (.rangeFunc g #[t1, t2] assign body) Q σ w := by
  intro a ha
  refine (wpIn_wide (n := 0)).1 (wpIn_rangeFunc ?_)
  intro fn _
  obtain ⟨rec, hrec⟩ : ∃ rec : LoopState → Option Code → Loop, rec = fun st pe => { state := st, pending := pe, fn, tmps := a.tmps, params := #[t1, t2], assign, body, defers := w.heap.size } := ⟨_, rfl⟩
  obtain ⟨W1, hW1⟩ : ∃ W1, (w.alloc (.deferred (some []))).alloc (.loop (rec .ready none)) = W1 := ⟨_, rfl⟩
  have hL1 : W1.heap[w.heap.size + 1]? = some (.loop (rec .ready none)) := by
    rw [← hW1]; have h := World.alloc_heap_new (w.alloc (.deferred (some []))) (.loop (rec .ready none)); rwa [World.size_alloc] at h
  have hK1 : W1.heap[w.heap.size]? = some (.deferred (some [])) := by
    rw [← hW1]; exact (heap_alloc_old (w.alloc (.deferred (some []))) _ (by simp)).trans (World.alloc_heap_new w _)
  have hI1 : J 0 W1 := by rw [← hW1]; exact abd_alloc (hJ 0) (abd_alloc (hJ 0) h0 _) _
  have hgv := ha.eval hg
  refine ⟨w.heap.size + 1, [{ target := .collected w.heap.size, args := #[] }], W1, { target := .fn (.func gf) lb.toArray, args := #[.func (.yield (w.heap.size + 1)) #[] #[]] }, W1, gf,
    #[.func (.yield (w.heap.size + 1)) #[] #[]] ++ lb.toArray, W1, ?_, ?_, fun _ _ => trivial, ?_, fun hd => by simp [Fence.wide] at hd, ?_⟩
  · rw [← hW1, hrec]; exact run_enterLoop_outer _ _ _ _ _
  · have hc : a.eval (.const (.func (.yield (w.heap.size + 1)) #[] #[])) = .func (.yield (w.heap.size + 1)) #[] #[] := rfl
    simp [resolve, hgv, hc, Deferred.ofValue]
  · simp [invoke, run_callFunc hf]
  · refine (callsIn_wide (n := 0 - 1)).2 ((hit (w.heap.size + 1) (fun k W => J k W ∧ W.heap[w.heap.size + 1]? = some (.loop (rec .ready none)) ∧ W.heap[w.heap.size]? = some (.deferred (some []))) W1
      (fun k W h => h.1) ?_ ⟨hI1, hL1, hK1⟩).mono ?_)
    · rintro k W hk ⟨hi, hl, hd⟩
      have hlt : w.heap.size + 1 < W.heap.size := (Array.getElem?_eq_some_iff.1 hl).1
      have hy := run_yield (P := P) (args := #[x k, y k]) hl (by rw [hrec]; rfl)
      rw [hrec] at hy
      refine ⟨fn, _, assign, body, hy, roundIn_of_wpIn trivial ?_⟩
      have hag : Ag n { tmps := (a.tmps.setIfInBounds t1 (x k)).setIfInBounds t2 (y k), defers := [] } ((t2, y k) :: (t1, x k) :: σ) := by
        have := (ha.put ht1 (x k)).put ht2 (y k)
        exact ⟨this.size, rfl, this.get⟩
      refine hassign (w.heap.size + 1) k W _ (fun a1 ha1 => ⟨_, run_beginRound hl (by rw [hrec]), ?_⟩) _ (by simpa using hag)
      have hl2 : (W.putObj (w.heap.size + 1) (.loop { rec .ready none with state := .busy })).heap[w.heap.size + 1]? = some (.loop { rec .ready none with state := .busy }) := World.putObj_heap_same hlt
      have hd2 : (W.putObj (w.heap.size + 1) (.loop { rec .ready none with state := .busy })).heap[w.heap.size]? = some (.deferred (some [])) := (World.putObj_heap_other (by omega)).trans hd
      refine wpIn_mono (hbody (w.heap.size + 1) k _ hk (abd_put (hJ k) hi _ (by omega) hl rfl) a1 ha1) ?_
      rintro e a3 W3 hp
      cases e <;> first
        | exact hp.elim
        | (obtain ⟨hk3, hi3⟩ := hp
           have hl3 := hk3.same _ _ hl2 rfl
           have h9 := run_endRound (P := P) none hl3
           refine ⟨_, _, h9, rfl, abd_put (hJ (k + 1)) hi3 _ (by omega) hl3 rfl, ?_, (World.putObj_heap_other (by omega)).trans (hk3.same _ _ hd2 rfl)⟩
           rw [hrec]; rw [hrec] at hl3; exact World.putObj_heap_same (Array.getElem?_eq_some_iff.1 hl3).1)
    · intro e W2 he
      cases e with
      | panicked c => exact he.elim
      | outgrown => exact he.elim
      | returned v =>
        obtain ⟨hi, hl, hd⟩ := he
        have h9 := run_endLoop (P := P) hl (by rw [hrec]; simp)
        refine ⟨none, _, by rw [hrec] at h9; exact h9, ?_⟩
        refine hdone _ w.heap.size (Nat.le_refl _) (abd_put (hJ N) hi _ (by omega) hl rfl) ((World.putObj_heap_other (by omega)).trans hd) _ ⟨⟨ha.size, rfl, ha.get⟩, ?_⟩
        simp [ha.defers]
end

/-! ### Behind the statement -/
def CWd (P : Program) (n D : Nat) (c : Code) (Q : Exit → Act → World → Prop) (σ : Fr) (w : World) : Prop := ∀ a, Agd n D a σ → c.wp P Q a w
def WLd (P : Program) (n D : Nat) (ops : Array Oper) (Q : Exit → Act → World → Prop) (l : List Oper) (σ : Fr) (w : World) : Prop := ∀ a, Agd n D a σ → wpList P ops Q l a w
section
variable {P : Program} {n D d : Nat} {ops : Array Oper} {Q : Exit → Act → World → Prop} {rest : List Oper} {o : Oper} {σ : Fr} {w : World} {v : Value}
theorem CWd.reg {id : Nat} {l : List Oper} (h : WLd P n D l.toArray Q l σ w) : CWd P n D (.region id l.toArray false) Q σ w := fun a ha => wp_region_lit (h a ha)
theorem CWd.seq {x y : Code} (h : CWd P n D x (Exit.then (y.wp P Q) Q) σ w) : CWd P n D (.seq x y) Q σ w := fun a ha => wp_seq (h a ha)
theorem CWd.ret (h : ∀ a, Agd n D a σ → Q .ret a w) : CWd P n D .ret Q σ w := fun a ha => wp_ret (h a ha)
theorem WLd.nilS {y : Code} (h : CWd P n D y Q σ w) : WLd P n D ops (Exit.then (y.wp P Q) Q) [] σ w := fun a ha => h a ha
theorem NQd.then {y : Code} (h : CWd P n D y Q σ w) : NQd n D (Exit.then (y.wp P Q) Q) σ w := fun a ha => h a ha
theorem NQd.block {id : Nat} (h : NQd n D Q σ w) : NQd n D (Exit.inBlock id Q) σ w := fun a ha => h a ha
theorem WLd.pure (hg : o.guard = none) (hd : o.dst = some d) (hb : Nat.blt d n = true) (h : PV P n σ w o v) (k : WLd P n D ops Q rest ((d, v) :: σ) w) : WLd P n D ops Q (o :: rest) σ w := by
  intro a ha
  unfold wpList
  rw [if_pos (by simp [Region.wanted, hg])]
  refine .inl ?_
  have hr : (execOp a.eval o).run P w = .ok (.value v) w := h { a with defers := [] } ha.ag
  simp only [Oper.wp, hr, Oper.upon, hd]
  exact k _ ⟨ha.ag.put hb v, by simp only [Act.put]; exact ha.ds⟩
theorem bodyM1 {fn : Func} {t : Nat} {R : Value → World → Prop} {a : Act} (hfn : fn.results = #[.tmp t]) (ha : Agd n D a σ) (hl : look t σ = some v) (hD : w.heap[D]? = some (.deferred (some []))) (hR : R v (w.putObj D (.deferred none))) : bodyPostM Fence.wide 0 P fn (Ret1 R) .ret a w := by
  show LeavesInM Fence.wide 0 P fn a.tmps (Ret1 R) a.defers .returning w
  rw [ha.ds]
  refine ⟨by simp, .inl ⟨D, _, rfl, run_takeDeferred hD, ?_⟩⟩
  have h9 : a.tmps[t]? = some v := ha.ag.get t v hl
  exact ⟨_, results_tmp hfn _ _ _, by
    have : a.tmps.getD t undef = v := by simp [Array.getD_eq_getD_getElem?, h9]
    first | (rw [this]; exact hR) | exact hR⟩
end
theorem callsOfM {P : Program} {n : Nat} {f : FuncId} {fn : Func} {c : Code} {vs : List Value} {w : World} {R : Value → World → Prop} (hf : P.funcs[f]? = some fn) (hb : fn.body = some c) (hn : fn.ntmps = n)
    (hs : Nat.ble vs.length n = true) (h : CW P n c (bodyPostM Fence.wide 0 P fn (Ret1 R)) (slots 0 vs) w) : Calls P f vs.toArray w (Ret1 R) := by
  refine (callsIn_wide (n := 0)).1 (callsIn_of_wp_marks hf hb trivial ((wpIn_wide (n := 0)).2 (h _ ⟨?_, rfl, ?_⟩)))
  · have : vs.length ≤ n := by simpa using hs
    simp [hn]; omega
  · intro k v hk
    obtain ⟨h1, h2⟩ := look_slots vs 0 k v hk
    have hl : k < vs.length := (List.getElem?_eq_some_iff.1 h2).1
    rw [Array.getElem?_append_left (by simpa using hl)]
    simpa using h2

/-! ### An iterator's call of its yield -/
def WLi (P : Program) (n : Nat) (ops : Array Oper) (Q : Exit → Act → World → Prop) (l : List Oper) (σ : Fr) (w : World) : Prop := ∀ a, Ag n a σ → wpListIn Fence.wide 0 P ops Q l a w
section
variable {P : Program} {n d l : Nat} {ops : Array Oper} {Q : Exit → Act → World → Prop} {rest : List Oper} {o : Oper} {σ : Fr} {w : World} {v u1 u2 : Value} {R : World → Prop}
theorem CW.regI {id : Nat} {l : List Oper} (h : WLi P n l.toArray Q l σ w) : CW P n (.region id l.toArray false) Q σ w := fun a ha => (wpIn_wide (n := 0)).1 (wpIn_region_lit (h a ha))
theorem WLi.pure (hg : o.guard = none) (hd : o.dst = some d) (hb : Nat.blt d n = true) (h : PV P n σ w o v) (k : WLi P n ops Q rest ((d, v) :: σ) w) : WLi P n ops Q (o :: rest) σ w := by
  intro a ha
  unfold wpListIn
  rw [if_pos (by simp [Region.wanted, hg])]
  refine ⟨fun _ _ => trivial, ?_⟩
  rw [Fence.wide_round, Oper.semAt_none, h a ha, Oper.uponIn_value, hd]
  exact k _ (ha.put hb v)
theorem WLi.nilS {y : Code} (h : CW P n y Q σ w) : WLi P n ops (Exit.then (y.wp P Q) Q) [] σ w := fun a ha => h a ha
theorem WLi.yield {x y z : Operand} {ty : TypeId} {pos : String} {af : Array Edge} {tt : Array TypeId} (hb : Nat.blt d n = true) (hx : ev σ x = some (.func (.yield l) #[] #[])) (hy : evs σ [y, z] = some [u1, u2])
    (hY : YieldAt Fence.wide 0 P l #[u1, u2] w (fun e W' => e = .returned (.bool true) ∧ R W')) (k : ∀ W', R W' → WLi P n ops Q rest ((d, .bool true) :: σ) W') : WLi P n ops Q (⟨some d, .call ⟨.value x, #[y, z], tt⟩, ty, pos, af, none⟩ :: rest) σ w := by
  intro a ha
  obtain ⟨fn, tmps, assign, body, h1, h2⟩ := hY
  unfold wpListIn
  rw [if_pos (by simp [Region.wanted])]
  refine ⟨fun _ _ => trivial, ?_⟩
  have hargs := ha.evals hy
  simp only [List.map_cons, List.map_nil, List.cons.injEq, and_true] at hargs
  have hr : (execOp a.eval ⟨some d, .call ⟨.value x, #[y, z], tt⟩, ty, pos, af, none⟩).run P w = .ok (.round l fn tmps assign body) w := by
    simp [execOp, resolve, Deferred.ofValue, invoke, ha.eval hx, hargs.1, hargs.2, h1]
  rw [Fence.wide_round, Oper.semAt_none, hr, Oper.uponIn_round]
  refine ⟨fun hd => by simp [Fence.wide] at hd, h2.mono (fun e W' he => ?_)⟩
  obtain ⟨rfl, he⟩ := he
  exact k W' he _ (ha.put hb _)
end

/-! ### Calls of function values -/
def FvC (P : Program) (fv : Value) (vs : List Value) (w : World) (R : Value → World → Prop) : Prop := ∃ (f : Nat) (ps us : List Value), fv = .func (.func f) ps.toArray us.toArray ∧ cfOf P f = true ∧ Calls P f (ps ++ vs ++ us).toArray w (Ret1 R)
section
variable {P : Program} {n : Nat} {σ : Fr} {w : World} {d : Nat} {ty : TypeId} {pos : String} {af : Array Edge} {gd : Option (Nat × Bool)} {xs : List Operand} {vs : List Value} {tt : Array TypeId} {R : Value → World → Prop} {K : Fr → World → Prop} {v fv : Value} {t : Nat}
theorem OpK.callFv (hb : Nat.blt d n = true) (ht : look t σ = some fv) (hx : evs σ xs = some vs) (hc : FvC P fv vs w R) (hk : ∀ v w', R v w' → K ((d, v) :: σ) w') :
    OpK P n ⟨some d, .call ⟨.value (.tmp t), xs.toArray, tt⟩, ty, pos, af, gd⟩ σ w K := by
  obtain ⟨f, ps, us, rfl, hf, hc⟩ := hc
  exact .callAny (fun a ha => by simp [execOp, resolve, Deferred.ofValue, invoke, ha.eval (x := .tmp t) ht, ha.evals hx, run_callFunc hf]) hc (fun _ ha v w' h => ⟨_, ha.put hb v, hk v w' h⟩)
theorem OpK.callFvR (hb : Nat.blt d n = true) (ht : look t σ = some fv) (hx : evs σ xs = some vs) (hc : FvC P fv vs w (RQt v w)) (hk : ∀ w', Ext w w' → K ((d, v) :: σ) w') :
    OpK P n ⟨some d, .call ⟨.value (.tmp t), xs.toArray, tt⟩, ty, pos, af, gd⟩ σ w K := .callFv hb ht hx hc (fun v w' h => by obtain ⟨rfl, h⟩ := h; exact hk w' h)
end
section
variable {w W W' : World} {row : Option Nat} {B D : Nat}
theorem Ext.abd (h : Ext w W) (hg : W.grownBy W' row) (hr : ∀ r, row = some r → B ≤ r ∧ ∃ o : Obj, W.heap[r]? = some o ∧ o.isCells = false) (hB : w.heap.size ≤ B) : Ext w W' := h.updO hg (fun g e => Nat.le_trans hB (hr g e).1)
theorem Bx.abd {p : Addr} {cs : List Value} (h : Bx W p cs) (hg : W.grownBy W' row) (hr : ∀ r, row = some r → B ≤ r ∧ ∃ o : Obj, W.heap[r]? = some o ∧ o.isCells = false) : Bx W' p cs := h.upd hg (fun e => by
  obtain ⟨_, o, h1, h2⟩ := hr _ e
  obtain ⟨t, h3⟩ := h.blk
  rw [h1] at h3; cases h3; cases h2)
theorem Ow.abd {og : Option Nat} {s : Nat} {v : Value} {cs : List Value} (h : Ow W og s v cs) (hg : W.grownBy W' row) (hr : ∀ r, row = some r → B ≤ r ∧ ∃ o : Obj, W.heap[r]? = some o ∧ o.isCells = false) : Ow W' og s v cs := h.upd hg (fun g e1 e2 => by
  obtain ⟨_, o, h1, h2⟩ := hr _ e2
  rcases h with ⟨h, _⟩ | ⟨g', l, cap, cur, t, k1, _, k3, _⟩
  · rw [h] at e1; cases e1
  · rw [k1] at e1; cases e1
    rw [h1] at k3; cases k3; cases h2)
theorem Osl.abd {α : Type} {f : α → Value} {og : Option Nat} {v : Value} {xs : List α} (h : Osl f W og v xs) (hg : W.grownBy W' row) (hr : ∀ r, row = some r → B ≤ r ∧ ∃ o : Obj, W.heap[r]? = some o ∧ o.isCells = false) : Osl f W' og v xs := Ow.abd h hg hr
theorem Ext.putD (h : Ext w W) (o : Obj) (hD : w.heap.size ≤ D) : Ext w (W.putObj D o) := h.upd (grownBy_putObj' W D o) hD
/-- What an owned block holds is cells. -/
def IsC (W : World) (og : Option Nat) : Prop := ∀ g, og = some g → ∃ o : Obj, W.heap[g]? = some o ∧ o.isCells = true
theorem Bx.isC {p : Addr} {cs : List Value} (h : Bx W p cs) : IsC W (some p.block) := fun g e => by cases e; obtain ⟨t, h3⟩ := h.blk; exact ⟨_, h3, rfl⟩
theorem Ow.isC {og : Option Nat} {s : Nat} {v : Value} {cs : List Value} (h : Ow W og s v cs) : IsC W og := fun g e => by
  rcases h with ⟨h, _⟩ | ⟨g', l, cap, cur, t, k1, _, k3, _⟩
  · rw [h] at e; cases e
  · rw [k1] at e; cases e; exact ⟨_, k3, rfl⟩
theorem Osl.isC {α : Type} {f : α → Value} {og : Option Nat} {v : Value} {xs : List α} (h : Osl f W og v xs) : IsC W og := Ow.isC h
theorem Dj.bxo {α : Type} {f : α → Value} {p : Addr} {cs : List Value} {og : Option Nat} {v : Value} {xs : List α} (_h : Bx W p cs) (_k : Osl f W og v xs) (hd : Dj (some p.block) og) : Dj (some p.block) og := hd
theorem keeps_upd {bad : List (Option Nat)} (u : UpdL bad W W') (h : AllO (IsC W) bad) : KeepsOthers W W' := ⟨u.size, fun k o hk ho => by
  refine (u.block k (Array.getElem?_eq_some_iff.1 hk).1 (fun hm => ?_)).trans hk
  obtain ⟨o', h1, h2⟩ := h.of _ hm k rfl
  rw [hk] at h1; cases h1; rw [ho] at h2; cases h2⟩
theorem Bx.neD {p : Addr} {cs : List Value} (h : Bx W p cs) (hD : W.heap[D]? = some (.deferred (some []))) : Dj (some p.block) (some D) := fun g e1 e2 => by
  cases e1; cases e2
  obtain ⟨t, h3⟩ := h.blk
  rw [hD] at h3; cases h3
theorem Ow.neD {og : Option Nat} {s : Nat} {v : Value} {cs : List Value} (h : Ow W og s v cs) (hD : W.heap[D]? = some (.deferred (some []))) : Dj og (some D) := fun g e1 e2 => by
  cases e2
  obtain ⟨o, h1, h2⟩ := h.isC _ e1
  rw [hD] at h1; cases h1; cases h2
end
section
variable {P : Program} {n D : Nat} {ops : Array Oper} {Q : Exit → Act → World → Prop} {l : List Oper} {kk : IntKind} {σ : Fr} {w : World} {x y : Operand} {v : Value} {α : Type} {f : α → Value} {og : Option Nat} {xs : List α}
theorem WLd.atO {i : Nat} (dv : α) (_hx : ev σ x = some v) (_hy : ev σ y = some (.int kk (i : Int))) (ho : Osl f w og v xs) (hi : i < xs.length)
    (K : ∀ p, EP v i 1 p → Cells w p [f (xs.getD i dv)] → WLd P n D ops Q l σ w) : WLd P n D ops Q l σ w := by
  obtain ⟨p, h1, h2⟩ := ho.at hi dv
  exact K p h1 h2
theorem WLd.atOZ {i : Int} (dv : α) (_hx : ev σ x = some v) (_hy : ev σ y = some (.int kk i)) (ho : Osl f w og v xs) (hi : 0 ≤ i ∧ i < xs.length)
    (K : ∀ p, EP v i.toNat 1 p → i = (i.toNat : Int) → Cells w p [f (xs.getD i.toNat dv)] → WLd P n D ops Q l σ w) : WLd P n D ops Q l σ w := by
  obtain ⟨p, h1, h2⟩ := ho.at (i := i.toNat) (by omega) dv
  exact K p h1 (by omega) h2
end
end Go.WX
