/- Structs: their building, their return, and how they lie in cells. No condition. -/
import Derived.Test.YthemmoceomdccaaLibH
namespace Go.WX
open Go

/-- A struct's empty cells and its fields' places. -/
def buOf (P : Program) (t : TypeId) : Option (List Value × List (Nat × Nat)) :=
  match P.info? t, P.underlying t with
  | some it, some (.struct fields) =>
    match it.zero, fields.toList.mapM (fun f => (P.info? f.type).map fun i => (f.offset, i.size)) with
    | some z, some places => some (z.cells.toList, places)
    | _, _ => none
  | _, _ => none

def fillC (pl : List (Nat × Nat)) : List Value → List (Nat × List Value) → Option (List Value)
  | z, [] => some z
  | z, (i, c) :: r => match pl[i]? with
    | none => none
    | some (off, size) => bif Nat.beq c.length size && Nat.ble (off + c.length) z.length then fillC pl (z.take off ++ c ++ z.drop (off + c.length)) r else none

theorem fold_put : ∀ (l : List Value) (k j : Nat) (cur : Array Value), k + j + l.length ≤ cur.size → (l.zipIdx j).foldl (fun cs (x : Value × Nat) => cs.setIfInBounds (k + x.2) x.1) cur = (cur.toList.take (k + j) ++ l ++ cur.toList.drop (k + j + l.length)).toArray := by
  intro l k
  induction l with
  | nil => intro j cur _; simp
  | cons a l ih =>
    intro j cur hl
    simp only [List.length_cons] at hl
    simp only [List.zipIdx_cons, List.foldl_cons]
    rw [ih (j + 1) _ (by simp; omega)]
    congr 1
    simp only [Array.toList_setIfInBounds, List.length_cons]
    have e1 : List.take (k + (j + 1)) (cur.toList.set (k + j) a) = List.take (k + j) cur.toList ++ [a] := by
      have : k + (j + 1) = (k + j) + 1 := by omega
      rw [this, List.take_succ_eq_append_getElem (by simp; omega), List.take_set_of_le (Nat.le_refl _)]
      simp
    have e2 : List.drop (k + (j + 1) + l.length) (cur.toList.set (k + j) a) = List.drop (k + j + (l.length + 1)) cur.toList := by
      rw [List.drop_set_of_lt (by omega)]
      congr 1; omega
    rw [e1, e2]; simp

def AllC : List Value → List (List Value) → Prop
  | [], [] => True
  | v :: r, c :: s => v.cells = c.toArray ∧ AllC r s
  | _, _ => False

theorem fill_fillC (pl : List (Nat × Nat)) : ∀ (ks : List Nat) (vs : List Value) (css : List (List Value)) (z ds : List Value), AllC vs css → fillC pl z (ks.zip css) = some ds → Instr.fill (pl.toArray[·]?) z.toArray (ks.zip vs) = some ds.toArray
  | [], vs, css, z, ds, _, h => by simp [fillC] at h; subst h; simp [Instr.fill]
  | k :: ks, [], [], z, ds, _, h => by simp [fillC] at h; subst h; simp [Instr.fill]
  | k :: ks, v :: vs, c :: css, z, ds, ha, h => by
    obtain ⟨h1, h2⟩ := ha
    simp only [List.zip_cons_cons, fillC] at h
    simp only [List.zip_cons_cons, Instr.fill, List.getElem?_toArray]
    cases hp : pl[k]? with
    | none => simp [hp] at h
    | some q =>
      obtain ⟨off, size⟩ := q
      simp only [hp] at h
      cases hb : (Nat.beq c.length size && Nat.ble (off + c.length) z.length) with
      | false => simp [hb] at h
      | true =>
        simp only [hb, cond_true] at h
        simp only [Bool.and_eq_true, Nat.ble_eq, nbeq, decide_eq_true_eq] at hb
        have hif : ¬ ((v.cells.size ≠ size || off + v.cells.size > z.toArray.size) = true) := by
          simp [h1, hb.1]; rw [← hb.1]; exact hb.2
        simp only [if_neg hif]
        have hf := fold_put c off 0 z.toArray (by simpa using hb.2)
        have hz : v.cells.zipIdx.foldl (fun cs (x : Value × Nat) => cs.setIfInBounds (off + x.2) x.1) z.toArray = (z.take off ++ c ++ z.drop (off + c.length)).toArray := by
          rw [h1]
          have := hf
          simp only [Nat.add_zero] at this
          rw [← this]; simp
        rw [hz]
        have := fill_fillC pl ks vs css _ ds h2 h
        simpa only [List.getElem?_toArray] using this
  | _ :: _, [], _ :: _, _, _, ha, _ => ha.elim
  | _ :: _, _ :: _, [], _, _, ha, _ => ha.elim

section
variable {P : Program} {n : Nat} {σ : Fr} {b w : World} {v : Value} {dst : Option Tmp} {ty : TypeId} {pos : String} {af : Array Edge} {gd : Option (Nat × Bool)} {t : TypeId} {p : Addr} {cs ds z : List Value} {pl : List (Nat × Nat)}

theorem map_parts {a : Act} : ∀ {os : List Operand} {ks : List Nat} {vs : List Value}, os.map a.eval = vs → ((ks.zip os).map fun (i, x) => (i, a.eval x)) = ks.zip vs
  | [], ks, vs, h => by subst h; simp
  | x :: r, [], vs, h => by simp
  | x :: r, k :: ks, vs, h => by subst h; simp [map_parts (a := a) (os := r) (ks := ks) rfl]

theorem PV.build {ks : List Nat} {os : List Operand} {vs : List Value} {css : List (List Value)} {parts : Array (Nat × Operand)} (ht : buOf P t = some (z, pl)) (hp : parts.toList = ks.zip os) (hx : evs σ os = some vs) (hc : AllC vs css) (hf : fillC pl z (ks.zip css) = some ds) :
    PV P n σ w ⟨dst, .build t parts, ty, pos, af, gd⟩ (.agg ds.toArray) := fun a ha => by
  have h1 : P.built t (parts.map fun (i, x) => (i, a.eval x)).toList = some ds.toArray := by
    have e : (parts.map fun (i, x) => (i, a.eval x)).toList = ks.zip vs := by
      rw [Array.toList_map, hp]; exact map_parts (ha.evals hx)
    rw [e]
    unfold buOf at ht
    unfold Program.built
    split at ht
    · rename_i it fields h2 h3
      simp only [h2, h3]
      split at ht
      · rename_i z' places h4 h5
        simp only [Option.some.injEq, Prod.mk.injEq] at ht
        obtain ⟨rfl, rfl⟩ := ht
        simp only [h4, h5]
        have := fill_fillC places ks vs css _ ds hc hf
        simpa using this
      · simp at ht
    · simp at ht
  simp [execOp, run_build w t _ _ h1]

/-- A struct that is returned lies in its box. -/
theorem run_asAddr_load (ht : agOf P t = some cs.length) (hc : Cells w p cs) : (loadVar t p).run P w = .ok (.agg cs.toArray) w := by
  have := run_loadAt_agg (P := P) ht hc
  simpa [Instr.loadAt, Instr.sureAddr] using this
end

section
variable {P : Program} {n : Nat} {σ : Fr} {w : World} {R : Value → World → Prop} {a a2 u m m2 : Nat} {t t2 : TypeId} {p p2 : Addr} {cs cs2 : List Value} {v : Value}
theorem getD_of {α : Act} (ha : Ag n α σ) (hx : look a σ = some v) : α.tmps[a]?.getD undef = v := by simp [ha.get _ _ hx]

theorem RQ.rc0 (ht : agOf P t = some m) (hx : look a σ = some (.pointer (some p))) (hc : Cells w p cs) (hm : cs.length = m) (h : R (.agg cs.toArray) w) : RQ n (RP P #[.cell a t] R) σ w := fun α ha =>
  ⟨ha.defers, _, fun fn hfn => by
    have h1 := run_asAddr_load (P := P) (hm ▸ ht) hc
    simp [results, hfn, getD_of ha hx, asAddr, h1], h⟩
theorem RQ.rc1 (ht : agOf P t = some m) (hx : look a σ = some (.pointer (some p))) (hc : Cells w p cs) (hm : cs.length = m) (hu : look u σ = some v) (h : R (.tuple #[.agg cs.toArray, v]) w) : RQ n (RP P #[.cell a t, .tmp u] R) σ w := fun α ha =>
  ⟨ha.defers, _, fun fn hfn => by
    have h1 := run_asAddr_load (P := P) (hm ▸ ht) hc
    simp [results, hfn, getD_of ha hx, getD_of ha hu, asAddr, h1], h⟩
theorem RQ.rcc (ht : agOf P t = some m) (hx : look a σ = some (.pointer (some p))) (hc : Cells w p cs) (hm : cs.length = m) (ht2 : agOf P t2 = some m2) (hx2 : look a2 σ = some (.pointer (some p2))) (hc2 : Cells w p2 cs2) (hm2 : cs2.length = m2) (h : R (.tuple #[.agg cs.toArray, .agg cs2.toArray]) w) : RQ n (RP P #[.cell a t, .cell a2 t2] R) σ w := fun α ha =>
  ⟨ha.defers, _, fun fn hfn => by
    have h1 := run_asAddr_load (P := P) (hm ▸ ht) hc
    have h2 := run_asAddr_load (P := P) (hm2 ▸ ht2) hc2
    simp [results, hfn, getD_of ha hx, getD_of ha hx2, asAddr, h1, h2], h⟩
theorem RQ.r3 {t u s : Nat} {v v2 v3 : Value} (ht : look t σ = some v) (hu : look u σ = some v2) (hs : look s σ = some v3) (h : R (.tuple #[v, v2, v3]) w) : RQ n (RP P #[.tmp t, .tmp u, .tmp s] R) σ w := fun _ ha =>
  ⟨ha.defers, _, fun fn hfn => by simp [results, hfn, getD_of ha ht, getD_of ha hu, getD_of ha hs], h⟩
end

/-- Block og is og0, or newer than the world c. -/
def OgR (c : World) (og0 og : Option Nat) : Prop := ∀ g, og = some g → og0 = some g ∨ c.heap.size ≤ g
theorem OgR.refl (c : World) (og : Option Nat) : OgR c og og := fun g h => .inl h
theorem OgR.nl {c : World} : OgR c none none := fun g h => by cases h
theorem OgR.new {c w : World} {g : Nat} (hs : c.heap.size ≤ w.heap.size) (hg : w.heap.size ≤ g) : OgR c none (some g) := fun k hk => .inr (by simp at hk; omega)
theorem OgR.lo {c w : World} {og : Option Nat} (hs : c.heap.size ≤ w.heap.size) (hg : Lo w og) : OgR c none og := fun k hk => .inr (Nat.le_trans hs (hg k hk))
theorem OgR.app {c w : World} {og0 og og' : Option Nat} (h : OgR c og0 og) (hs : c.heap.size ≤ w.heap.size) (ho : og' = og ∨ ∃ g, og' = some g ∧ w.heap.size ≤ g) : OgR c og0 og' := by
  rcases ho with rfl | ⟨g, rfl, hg⟩
  · exact h
  · exact fun k hk => .inr (by simp at hk; omega)
theorem OgR.weak {c : World} {og0 og : Option Nat} (h : OgR c none og) : OgR c og0 og := fun g hg => by
  rcases h g hg with h1 | h1
  · cases h1
  · exact .inr h1
theorem OgR.trans {c d : World} {og0 og og' : Option Nat} (h : OgR c og0 og) (hs : c.heap.size ≤ d.heap.size) (k : OgR d og og') : OgR c og0 og' := fun g hg => by
  rcases k g hg with h1 | h1
  · exact h g h1
  · exact .inr (Nat.le_trans hs h1)
theorem Lo.ogr {b c : World} {og0 og : Option Nat} (h : Lo b og0) (e : Ext b c) (r : OgR c og0 og) : Lo b og := fun g hg => by
  rcases r g hg with h1 | h1
  · exact h g h1
  · exact Nat.le_trans e.size h1
theorem OkB.ogr {bad : List (Option Nat)} {c d : World} {og0 og : Option Nat} (h : OkB bad c og0) (hs : c.heap.size ≤ d.heap.size) (r : OgR d og0 og) : OkB bad c og := fun g hg => by
  rcases r g hg with h1 | h1
  · exact h g h1
  · exact .inr (Nat.le_trans hs h1)
theorem Dj.ogr {c : World} {a og0 og : Option Nat} (h : Dj a og0) (hlt : ∀ k, a = some k → k < c.heap.size) (r : OgR c og0 og) : Dj a og := fun g ha hg => by
  rcases r g hg with h1 | h1
  · exact h g ha h1
  · have := hlt g ha; omega

/-! ### An operation whose guard was itself skipped -/
section
variable {P : Program} {n : Nat} {l : List Oper} {Q : Exit → Act → World → Prop} {S : World → Prop} {L : Nat} {σ : Fr} {w : World} {i j t d : Nat} {r : Pl} {rest : List Oper} {ops : Array Oper} {o : Oper} {b : Bool}
theorem wanted_un {a : Act} (ha : Ag n a σ) (hg : o.guard = some (j, b)) (hj : (ops[j]?).bind (·.dst) = some t) (ht : look t σ = some undef) : Region.wanted o (yielded ops a.tmps) = false := by
  have := ha.get t _ ht
  simp [Region.wanted, hg, yielded, hj, this, undef]
theorem WL.skipU (hg : o.guard = some (j, b)) (hj : (ops[j]?).bind (·.dst) = some t) (ht : look t σ = some undef) (hd : o.dst = some d) (hb : Nat.blt d n = true)
    (k : WL P n ops Q rest ((d, undef) :: σ) w) : WL P n ops Q (o :: rest) σ w := by
  intro a ha
  unfold wpList
  rw [if_neg (by rw [wanted_un ha hg hj ht]; simp), hd]
  exact k _ (ha.put hb _)
theorem WL.skipUN (hg : o.guard = some (j, b)) (hj : (ops[j]?).bind (·.dst) = some t) (ht : look t σ = some undef) (hd : o.dst = none)
    (k : WL P n ops Q rest σ w) : WL P n ops Q (o :: rest) σ w := by
  intro a ha
  unfold wpList
  rw [if_neg (by rw [wanted_un ha hg hj ht]; simp), hd]
  exact k _ ha
theorem HP.skipU (hi : l[i]? = some o) (hg : o.guard = some (j, b)) (hj : (l[j]?).bind (·.dst) = some t) (ht : look t σ = some undef) (hd : o.dst = some d) (hb : Nat.blt d n = true) (hS : S w) (k : HP P n l Q S L r ((d, undef) :: σ) w) : HP P n l Q S L (.take i r) σ w :=
  .takeY hi hS (fun a ha => .inr ⟨wanted_un ha hg (by simpa using hj) ht, rfl⟩) (fun a ha => ⟨_, by rw [hd]; exact ha.put hb undef, k⟩)
end

/-! ### A slice set beside nil -/
def isNilV : Value → Bool
  | .slice none _ _ => true
  | _ => false
section
variable {P : Program} {n : Nat} {σ : Fr} {b w : World} {x y : Operand} {v : Value} {dst : Option Tmp} {ty u : TypeId} {pos : String} {af : Array Edge} {gd : Option (Nat × Bool)} {t e : TypeId} {s yy : Nat} {α : Type} {E : Enc α} {xs : List α}
theorem Rd.nil_of (h : Rd E w v xs) (hn : isNilV v = true) : xs = [] ∧ v = .slice none 0 0 := by
  rcases h.2 with ⟨h1, h2⟩ | ⟨a, cap, h2, _⟩
  · exact ⟨h2, h1⟩
  · subst h2; simp [isNilV] at hn
theorem equal_nil (ht : slOf P t = some (e, s, yy)) (h : Rd E b v xs) (w : World) : (Op.equal t v (.slice none 0 0)).run P w = .ok (isNilV v) w := by
  obtain ⟨h1, _⟩ := slOf_spec ht
  rcases h.2 with ⟨h2, _⟩ | ⟨a, cap, h2, _⟩
  all_goals
    subst h2
    show (Op.equalIn (9999 + 1) t _ _).run P w = _
    rw [Op.equalIn]
    simp only [Sem.run_bind, run_underlying h1, Result.andThen_ok]
    rfl
theorem PV.eqlNil (ht : slOf P t = some (e, s, yy)) (hx : ev σ x = some v) (hv : Rd E b v xs) (hy : ev σ y = some (.slice none 0 0)) : PV P n σ w ⟨dst, .binOp .eql t x y u, ty, pos, af, gd⟩ (.bool (isNilV v)) := fun a ha => by
  have h1 := equal_nil (P := P) ht hv w
  rcases hv.2 with ⟨h2, _⟩ | ⟨c, cap, h2, _⟩ <;> subst h2 <;> simp [execOp, ha.eval hx, ha.eval hy, eqGuard_at_slice, binOp, h1]
theorem PV.neqNil (ht : slOf P t = some (e, s, yy)) (hx : ev σ x = some v) (hv : Rd E b v xs) (hy : ev σ y = some (.slice none 0 0)) : PV P n σ w ⟨dst, .binOp .neq t x y u, ty, pos, af, gd⟩ (.bool (!isNilV v)) := fun a ha => by
  have h1 := equal_nil (P := P) ht hv w
  rcases hv.2 with ⟨h2, _⟩ | ⟨c, cap, h2, _⟩ <;> subst h2 <;> simp [execOp, ha.eval hx, ha.eval hy, eqGuard_at_slice, binOp, h1]
end

/-- Two things, one behind the other. -/
def EP2 {α β : Type} (A : Enc α) (B : Enc β) : Enc (α × β) := ⟨A.size + B.size, fun w x cs => ∃ c d, cs = c ++ d ∧ A.rep w x.1 c ∧ B.rep w x.2 d,
  fun ⟨c, d, h, h1, h2⟩ => by simp [h, A.len h1, B.len h2], fun ⟨c, d, h, h1, h2⟩ e => ⟨c, d, h, A.up h1 e, B.up h2 e⟩⟩

theorem PV.quoN {P : Program} {n : Nat} {σ : Fr} {w : World} {x y : Operand} {dst : Option Tmp} {ty t u : TypeId} {pos : String} {af : Array Edge} {g : Option (Nat × Bool)} {p q : Int} (hx : ev σ x = some (.int .i64 p)) (hy : ev σ y = some (.int .i64 q)) (h : (0 ≤ p ∧ 0 < q) ∧ p ≤ 9223372036854775807) :
    PV P n σ w ⟨dst, .binOp .quo t x y u, ty, pos, af, g⟩ (.int .i64 (p.tdiv q)) := by
  refine PV.quo hx hy (by omega) ?_
  have h1 : p.tdiv q = p / q := Int.tdiv_eq_ediv_of_nonneg h.1.1
  have h2 : 0 ≤ p / q := Int.ediv_nonneg h.1.1 (by omega)
  have h3 : p / q ≤ p := Int.ediv_le_self _ h.1.1
  exact R64.wrap ⟨by omega, by omega⟩

/-! ### A cut: what comes behind a piece of code is shown once, whatever way the piece went -/
theorem CW.cut {P : Program} {n : Nat} {Q : Exit → Act → World → Prop} {σ σk : Fr} {w : World} {x y : Code} (J : Fr → World → Prop) (_hk : Sub σk σ) (hin : CW P n x (Exit.then (fun a' w' => ∃ ρ, Ag n a' (ρ ++ σk) ∧ J ρ w') Q) σ w)
    (hout : ∀ ρ w, J ρ w → CW P n y Q (ρ ++ σk) w) : CW P n (.seq x y) Q σ w := by
  refine CW.seq (fun a ha => wp_mono (hin a ha) (fun e a' w' hq => ?_))
  cases e <;> first
    | exact hq
    | (obtain ⟨ρ, h1, h2⟩ := hq
       exact hout ρ w' h2 a' h1)
theorem NQ.cut {n : Nat} {Q : Exit → Act → World → Prop} {σ σk ρ : Fr} {w : World} {J : Fr → World → Prop} (hs : Sub (ρ ++ σk) σ) (h : J ρ w) : NQ n (Exit.then (fun a' w' => ∃ ρ, Ag n a' (ρ ++ σk) ∧ J ρ w') Q) σ w :=
  fun _ ha => ⟨ρ, ha.sub hs, h⟩
end Go.WX
