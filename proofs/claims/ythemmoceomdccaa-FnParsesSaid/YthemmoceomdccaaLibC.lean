/- Laws of memory: rows of cells that are read, boxes and slices that a call owns, and the operations that read, make and write them. No condition. -/
import Derived.Test.YthemmoceomdccaaLibB
namespace Go.WX
open Go

/-! ### Worlds: nothing that was there has turned, but for one block -/
abbrev Upd (og : Option Nat) (w w' : World) : Prop := w.grownBy w' og
abbrev Ext (w w' : World) : Prop := w.grownBy w' none

theorem Ext.refl (w : World) : Ext w w := ⟨rfl, rfl, rfl, Nat.le_refl _, fun _ _ _ => rfl⟩
theorem Ext.blk {w w' : World} (h : Ext w w') {k : Nat} (hk : k < w.heap.size) : w'.heap[k]? = w.heap[k]? := World.grownBy.block h k hk (by simp)
theorem Upd.trans {og : Option Nat} {a b c : World} (h : Upd og a b) (k : Upd og b c) : Upd og a c :=
  ⟨k.os.trans h.os, k.tape.trans h.tape, k.output.trans h.output, Nat.le_trans h.size k.size, fun i hi hn => (k.block i (Nat.lt_of_lt_of_le hi h.size) hn).trans (h.block i hi hn)⟩
theorem Ext.trans {a b c : World} (h : Ext a b) (k : Ext b c) : Ext a c := Upd.trans h k
theorem Ext.toUpd {og : Option Nat} {a b : World} (h : Ext a b) : Upd og a b := ⟨h.os, h.tape, h.output, h.size, fun _ hi _ => Ext.blk h hi⟩
/-- A write into a block that is newer than b. -/
theorem Ext.upd {b w w' : World} {g : Nat} (h : Ext b w) (u : Upd (some g) w w') (hg : b.heap.size ≤ g) : Ext b w' :=
  ⟨u.os.trans h.os, u.tape.trans h.tape, u.output.trans h.output, Nat.le_trans h.size u.size, fun i hi _ => (u.block i (Nat.lt_of_lt_of_le hi h.size) (by simp; omega)).trans (Ext.blk h hi)⟩
theorem Ext.updO {b w w' : World} {og : Option Nat} (h : Ext b w) (u : Upd og w w') (hg : ∀ g, og = some g → b.heap.size ≤ g) : Ext b w' := by
  cases og with
  | none => exact h.trans u
  | some g => exact h.upd u (hg g rfl)
theorem Ext.drew (w : World) : Ext w { w with drawn := w.drawn + 1 } := ⟨rfl, rfl, rfl, Nat.le_refl _, fun _ _ _ => rfl⟩
theorem Ext.alloc (w : World) (o : Obj) : Ext w (w.alloc o) := World.grownBy_alloc w o none
theorem Ext.below {w w' : World} (h : Ext w w') : RowKit.Below w.heap.size w w' := ⟨h.os, h.tape, h.output, h.size, fun _ hk => Ext.blk h hk⟩
theorem Upd.of_below {w w' : World} (h : RowKit.Below w.heap.size w w') : Ext w w' := ⟨h.os, h.tape, h.output, h.size, fun k hk _ => h.block k hk⟩

/-! ### Cells at an address -/
def padd (p : Addr) (k : Nat) : Addr := ⟨p.block, p.off + k, none⟩
def Cells (w : World) (p : Addr) (cs : List Value) : Prop := p.spot = none ∧ ∀ j u, cs[j]? = some u → w.cell? (padd p j) = some u

theorem Cells.upd {w w' : World} {og : Option Nat} {p : Addr} {cs : List Value} (h : Cells w p cs) (e : Upd og w w') (hne : og ≠ some p.block) : Cells w' p cs :=
  ⟨h.1, fun j u hj => e.cell (h.2 j u hj) (Ne.symm hne)⟩
theorem Cells.up {b w : World} {p : Addr} {cs : List Value} (h : Cells b p cs) (e : Ext b w) : Cells w p cs := h.upd e (by simp)

theorem padd_zero {p : Addr} (h : p.spot = none) : padd p 0 = p := by cases p; simp_all [padd]
theorem padd_padd (p : Addr) (i j : Nat) : padd (padd p i) j = padd p (i + j) := by simp [padd, Nat.add_assoc]
theorem add_padd {p : Addr} (h : p.spot = none) (k : Nat) : p.add k = padd p k := by
  unfold Addr.add
  split
  · subst_vars; exact (padd_zero h).symm
  · rfl
theorem Cells.add {w : World} {p : Addr} {cs : List Value} (h : Cells w p cs) (k : Nat) : Cells w (padd p k) (cs.drop k) :=
  ⟨rfl, fun j u hj => by rw [padd_padd]; exact h.2 _ _ (by simpa using hj)⟩

/-- A box: a block that the call owns, whole. -/
structure Bx (w : World) (p : Addr) (cs : List Value) : Prop where
  spot : p.spot = none
  off : p.off = 0
  blk : ∃ e, w.heap[p.block]? = some (.cells cs.toArray e (0, 0))

theorem Bx.cells {w : World} {p : Addr} {cs : List Value} (h : Bx w p cs) : Cells w p cs :=
  ⟨h.spot, fun j u hj => by
    obtain ⟨e, hb⟩ := h.blk
    simp [World.cell?, padd, hb, h.off, hj]⟩
theorem Bx.lt {w : World} {p : Addr} {cs : List Value} (h : Bx w p cs) : p.block < w.heap.size := by
  obtain ⟨e, hb⟩ := h.blk
  exact (Array.getElem?_eq_some_iff.1 hb).1
theorem Bx.upd {w w' : World} {og : Option Nat} {p : Addr} {cs : List Value} (h : Bx w p cs) (u : Upd og w w') (hne : og ≠ some p.block) : Bx w' p cs :=
  ⟨h.spot, h.off, by
    obtain ⟨e, hb⟩ := h.blk
    exact ⟨e, (u.block _ h.lt (Ne.symm hne)).trans hb⟩⟩
theorem Bx.up {w w' : World} {p : Addr} {cs : List Value} (h : Bx w p cs) (u : Ext w w') : Bx w' p cs := h.upd u (by simp)

/-! ### Slices that are read -/
/-- How a value of a type lies in cells. -/
structure Enc (α : Type) where
  size : Nat
  rep : World → α → List Value → Prop
  len : ∀ {w x cs}, rep w x cs → cs.length = size
  up : ∀ {w w' x cs}, rep w x cs → Ext w w' → rep w' x cs

/-- One cell, the same in every world. -/
def Enc.sc {α : Type} (f : α → Value) : Enc α := ⟨1, fun _ x cs => cs = [f x], fun h => by simp [h], fun h _ => h⟩
@[reducible] def VI (z : Int) : Value := .int .i64 z
@[reducible] def VB (b : Bool) : Value := .bool b
@[reducible] def VU8 (z : Int) : Value := .int .u8 z
@[reducible] def VU32 (z : Int) : Value := .int .u32 z
@[reducible] def EI : Enc Int := .sc VI
@[reducible] def EB : Enc Bool := .sc VB
@[reducible] def EU8 : Enc Int := .sc VU8
@[reducible] def EU32 : Enc Int := .sc VU32
@[reducible] def EV : Enc Value := .sc id

/-- The slice v reads as xs. -/
def Rd {α : Type} (E : Enc α) (w : World) (v : Value) (xs : List α) : Prop :=
  xs.length ≤ 9223372036854775807 ∧ ((v = .slice none 0 0 ∧ xs = []) ∨
  ∃ a cap, v = .slice (some a) xs.length cap ∧ xs.length ≤ cap ∧ ∀ i x, xs[i]? = some x → a.spot = none ∧ ∃ cs, E.rep w x cs ∧ Cells w (padd a (i * E.size)) cs)

section
variable {α : Type} {E : Enc α} {b w w' : World} {v : Value} {xs : List α}

theorem Rd.up (h : Rd E b v xs) (e : Ext b w) : Rd E w v xs := by
  refine ⟨h.1, ?_⟩
  rcases h.2 with h | ⟨a, cap, h1, h2, h4⟩
  · exact .inl h
  · refine .inr ⟨a, cap, h1, h2, fun i x hx => ?_⟩
    obtain ⟨h3, cs, k1, k2⟩ := h4 i x hx
    exact ⟨h3, cs, E.up k1 e, k2.up e⟩
theorem Rd.le (h : Rd E b v xs) : xs.length ≤ 9223372036854775807 := h.1
theorem Rd.leI (h : Rd E b v xs) : (xs.length : Int) ≤ 9223372036854775807 := by have := h.1; omega
theorem Rd.nil (E : Enc α) (w : World) : Rd E w (.slice none 0 0) [] := ⟨by simp, .inl ⟨rfl, rfl⟩⟩
theorem Rd.shape (h : Rd E b v xs) : ∃ o cap, v = .slice o xs.length cap ∧ xs.length ≤ cap := by
  rcases h.2 with ⟨rfl, rfl⟩ | ⟨a, cap, h1, h2, _⟩
  · exact ⟨none, 0, rfl, by simp⟩
  · exact ⟨_, _, h1, h2⟩
theorem Rd.cells1 (h : Rd E b v xs) : v.cells = #[v] := by
  obtain ⟨o, cap, rfl, _⟩ := h.shape; rfl

/-- The address of element i of a slice. -/
def EP (v : Value) (i s : Nat) (p : Addr) : Prop := ∃ a l cap, v = .slice (some a) l cap ∧ i < l ∧ a.spot = none ∧ p = padd a (i * s)

theorem EP.spot {i s : Nat} {p : Addr} (h : EP v i s p) : p.spot = none := by obtain ⟨a, l, cap, _, _, _, rfl⟩ := h; rfl

theorem Rd.at (h : Rd E b v xs) {i : Nat} (hi : i < xs.length) (d : α) : ∃ p cs, EP v i E.size p ∧ Cells b p cs ∧ E.rep b (xs.getD i d) cs := by
  rcases h.2 with ⟨rfl, rfl⟩ | ⟨a, cap, h1, h2, h4⟩
  · simp at hi
  · obtain ⟨h3, cs, k1, k2⟩ := h4 i xs[i] (by simp [hi])
    refine ⟨padd a (i * E.size), cs, ⟨a, _, cap, h1, hi, h3, rfl⟩, k2, ?_⟩
    simpa [List.getD_eq_getElem?_getD, hi] using k1
end

/-! ### Slices that the call owns -/
/-- The slice v, of elements of s cells, owns block og, or is nil; it holds the cells cs. -/
def Ow (w : World) (og : Option Nat) (s : Nat) (v : Value) (cs : List Value) : Prop :=
  (og = none ∧ v = .slice none 0 0 ∧ cs = []) ∨
  ∃ g l cap cur e, og = some g ∧ v = .slice (some ⟨g, 0, none⟩) l cap ∧ w.heap[g]? = some (.cells cur e (0, 0)) ∧ cs.length = l * s ∧ cur.toList.take (l * s) = cs ∧ cur.size = cap * s ∧ l ≤ cap ∧ cap ≤ maxLen

section
variable {w w' : World} {og : Option Nat} {g s : Nat} {v : Value} {cs : List Value}

theorem Ow.nil (w : World) (s : Nat) : Ow w none s (.slice none 0 0) [] := .inl ⟨rfl, rfl, rfl⟩
theorem Ow.lt (h : Ow w (some g) s v cs) : g < w.heap.size := by
  rcases h with ⟨h, _⟩ | ⟨g', l, cap, cur, e, h1, _, h3, _⟩
  · simp at h
  · simp at h1; subst h1; exact (Array.getElem?_eq_some_iff.1 h3).1
theorem Ow.upd {og' : Option Nat} (h : Ow w og s v cs) (u : Upd og' w w') (hne : ∀ g, og = some g → og' ≠ some g) : Ow w' og s v cs := by
  rcases h with h | ⟨g', l, cap, cur, e, h1, h2, h3, hr⟩
  · exact .inl h
  · refine .inr ⟨g', l, cap, cur, e, h1, h2, ?_, hr⟩
    rw [u.block g' (Array.getElem?_eq_some_iff.1 h3).1 (Ne.symm (hne g' h1))]; exact h3
theorem Ow.up (h : Ow w og s v cs) (u : Ext w w') : Ow w' og s v cs := h.upd u (by simp)
theorem Ow.cells1 (h : Ow w og s v cs) : v.cells = #[v] := by
  rcases h with ⟨_, rfl, _⟩ | ⟨g', l, cap, cur, e, h1, rfl, _⟩ <;> rfl
theorem Ow.oneCell (h : Ow w og s v cs) : v.oneCell' = true := by
  rcases h with ⟨_, rfl, _⟩ | ⟨g', l, cap, cur, e, h1, rfl, _⟩ <;> rfl
theorem Ow.shape (h : Ow w og s v cs) : ∃ o l cap, v = .slice o l cap ∧ cs.length = l * s ∧ l ≤ cap := by
  rcases h with ⟨_, rfl, rfl⟩ | ⟨g', l, cap, cur, e, h1, h2, h3, h4, h5, h6, h7, h8⟩
  · exact ⟨none, 0, 0, rfl, by simp, by simp⟩
  · exact ⟨_, _, _, h2, h4, h7⟩
theorem Ow.cellsAt (h : Ow w og s v cs) {a : Addr} {l cap : Nat} (hv : v = .slice (some a) l cap) : Cells w a cs := by
  rcases h with ⟨_, rfl, _⟩ | ⟨g', l', cap', cur, e, h1, rfl, h3, h4, h5, _⟩
  · simp at hv
  · simp at hv
    obtain ⟨rfl, rfl, rfl⟩ := hv
    refine ⟨rfl, fun j u hj => ?_⟩
    rw [← h5, List.getElem?_take] at hj
    split at hj
    · simpa [World.cell?, padd, h3] using hj
    · cases hj

theorem Ow.at (h : Ow w og 1 v cs) {i : Nat} (hi : i < cs.length) : ∃ p, EP v i 1 p ∧ Cells w p [cs[i]] ∧ ∃ g, og = some g ∧ p = ⟨g, i, none⟩ := by
  have h' := h
  rcases h with ⟨_, rfl, rfl⟩ | ⟨g', l, cap, cur, e, h1, rfl, h3, h4, h5, _⟩
  · simp at hi
  · refine ⟨padd ⟨g', 0, none⟩ (i * 1), ⟨_, l, cap, rfl, by omega, rfl, rfl⟩, ⟨rfl, fun j u hj => ?_⟩, g', h1, by simp [padd]⟩
    have hc := h'.cellsAt rfl
    match j, hj with
    | 0, hj =>
      simp at hj; subst hj
      have := hc.2 i cs[i] (by simp [hi])
      simpa [padd] using this
    | j + 1, hj => simp at hj

/-- What was owned may be read. -/
theorem Ow.rd {α : Type} {f : α → Value} {xs : List α} (h : Ow w og 1 v (xs.map f)) : Rd (.sc f) w v xs := by
  have h' := h
  rcases h with ⟨_, rfl, hx⟩ | ⟨g', l, cap, cur, e, h1, rfl, h3, h4, h5, h6, h7, h8⟩
  · have hx : xs = [] := by simpa using hx
    exact ⟨by simp [hx], .inl ⟨rfl, hx⟩⟩
  · have hl : l = xs.length := by simpa using h4.symm
    subst hl
    refine ⟨by simp only [maxLen] at h8; omega, .inr ⟨⟨g', 0, none⟩, cap, rfl, h7, fun i x hx => ⟨rfl, [f x], rfl, rfl, fun j u hj => ?_⟩⟩⟩
    have hc := h'.cellsAt rfl
    match j, hj with
    | 0, hj =>
      simp at hj; subst hj
      have := hc.2 i (f x) (by simp [hx])
      simpa [padd, Enc.sc] using this
    | j + 1, hj => simp at hj
end

/-! ### Reading -/
section
variable {P : Program} {n : Nat} {σ : Fr} {b w : World} {x y : Operand} {v : Value} {dst : Option Tmp} {ty : TypeId} {pos : String} {af : Array Edge} {gd : Option (Nat × Bool)} {t : TypeId} {k i o u s m : Nat} {p : Addr} {cs ds : List Value}

theorem run_loadAt_one (ht : naOf P t = true) (hc : w.cell? p = some v) : (Instr.loadAt t (.pointer (some p))).run P w = .ok v w := by
  simp [Instr.loadAt, Instr.sureAddr, loadVar, naOf_isAgg ht w, hc]

theorem PV.load1 (ht : naOf P t = true) (hx : ev σ x = some (.pointer (some (padd p k)))) (hc : Cells b p cs) (he : Ext b w) (hk : cs[k]? = some v) : PV P n σ w ⟨dst, .load t x, ty, pos, af, gd⟩ v := fun a ha => by
  simp [execOp, ha.eval hx, run_loadAt_one ht ((hc.up he).2 k v hk)]
theorem PV.load0 (ht : naOf P t = true) (hx : ev σ x = some (.pointer (some p))) (hc : Cells b p cs) (he : Ext b w) (hk : cs[0]? = some v) : PV P n σ w ⟨dst, .load t x, ty, pos, af, gd⟩ v := fun a ha => by
  have := (hc.up he).2 0 v hk
  rw [padd_zero hc.1] at this
  simp [execOp, ha.eval hx, run_loadAt_one ht this]

theorem run_loadAt_agg (ht : agOf P t = some cs.length) (hc : Cells w p cs) : (Instr.loadAt t (.pointer (some p))).run P w = .ok (.agg cs.toArray) w := by
  obtain ⟨h1, j, h2, h3⟩ := agOf_spec ht
  have := run_loadCells_list (P := P) w p cs (fun j v hj => by rw [add_padd hc.1]; exact hc.2 j v hj)
  simp [Instr.loadAt, Instr.sureAddr, loadVar, h1 w, sizeOf, typeInfo, h2, h3, this]
/-- A whole struct or array. -/
theorem PV.loadA (ht : agOf P t = some m) (hx : ev σ x = some (.pointer (some p))) (hc : Cells b p cs) (he : Ext b w) (hm : cs.length = m) : PV P n σ w ⟨dst, .load t x, ty, pos, af, gd⟩ (.agg cs.toArray) := fun a ha => by
  simp [execOp, ha.eval hx, run_loadAt_agg (hm ▸ ht) (hc.up he)]
/-- A struct within a struct. -/
theorem PV.loadP (ht : agOf P t = some m) (hx : ev σ x = some (.pointer (some (padd p k)))) (hc : Cells b p cs) (he : Ext b w) (hd : (cs.drop k).take m = ds) (hm : ds.length = m) : PV P n σ w ⟨dst, .load t x, ty, pos, af, gd⟩ (.agg ds.toArray) := fun a ha => by
  have h : Cells w (padd p k) ds := ⟨rfl, fun j u hj => ((hc.up he).add k).2 j u (by
    rw [← hd, List.getElem?_take] at hj
    split at hj
    · exact hj
    · cases hj)⟩
  simp [execOp, ha.eval hx, run_loadAt_agg (hm ▸ ht) h]

theorem run_fieldAt (hf : flOf P t i = some (o, u, s)) (hp : p.spot = none) : (Instr.fieldAt t (.pointer (some p)) i).run P w = .ok (.pointer (some (padd p o))) w := by
  obtain ⟨fs, f, h1, h2, h3, h4, h5, h6⟩ := flOf_spec hf
  subst h3; subst h4
  simp [Instr.fieldAt, run_underlying h1, h2, Instr.sureAddr, fieldPlace, szOf_run h6, h5, add_padd hp]
theorem PV.fieldAddr (hf : flOf P t i = some (o, u, s)) (hx : ev σ x = some (.pointer (some p))) (hc : Cells b p cs) : PV P n σ w ⟨dst, .fieldAddr t x i, ty, pos, af, gd⟩ (.pointer (some (padd p o))) := fun a ha => by
  simp [execOp, ha.eval hx, run_fieldAt hf hc.1]
theorem PV.fieldAddrP (hf : flOf P t i = some (o, u, s)) (hx : ev σ x = some (.pointer (some (padd p k)))) (hm : k + o = m) : PV P n σ w ⟨dst, .fieldAddr t x i, ty, pos, af, gd⟩ (.pointer (some (padd p m))) := fun a ha => by
  simp [execOp, ha.eval hx, run_fieldAt hf (p := padd p k) rfl, padd_padd, hm]
theorem PV.field (hf : flOf P t i = some (o, u, s)) (hn : naOf P u = true) (hx : ev σ x = some (.agg cs.toArray)) (hk : cs[o]? = some v) : PV P n σ w ⟨dst, .field t x i, ty, pos, af, gd⟩ v := fun a ha => by
  obtain ⟨fs, f, h1, h2, h3, h4, h5, h6⟩ := flOf_spec hf
  subst h3; subst h4
  simp [execOp, ha.eval hx, Instr.field, run_underlying h1, h2, asAgg, part, naOf_isAgg hn, hk]

theorem PV.indexAddr {kk : IntKind} {e yy : Nat} (hp : EP v i s p) (hx : ev σ x = some v) (hy : ev σ y = some (.int kk (i : Int))) (ht : slOf P t = some (e, s, yy)) : PV P n σ w ⟨dst, .indexAddr t x y, ty, pos, af, gd⟩ (.pointer (some p)) := fun a ha => by
  obtain ⟨a0, l, cap, rfl, hi, hs, rfl⟩ := hp
  obtain ⟨h1, j, h2, h3, h4⟩ := slOf_spec ht
  simp [execOp, ha.eval hx, ha.eval hy, Instr.indexAt, asIntOf, run_underlying h1, hi, sizeOf, typeInfo, h2, h3, add_padd hs]
theorem PV.indexArr {kk : IntKind} {z : Int} {l e : Nat} (ht : arOf P t = some (l, e, s)) (hx : ev σ x = some (.pointer (some p))) (hsp : p.spot = none) (hy : ev σ y = some (.int kk z)) (h0 : 0 ≤ z) (h1 : z < l) : PV P n σ w ⟨dst, .indexAddr t x y, ty, pos, af, gd⟩ (.pointer (some (padd p (z.toNat * s)))) := fun a ha => by
  obtain ⟨h2, h3⟩ := arOf_spec ht
  simp [execOp, ha.eval hx, ha.eval hy, Instr.indexAt, asIntOf, run_underlying h2, Instr.sureAddr, h0, h1, szOf_run h3, add_padd hsp]
theorem PV.len {α : Type} {E : Enc α} {xs : List α} {tt e yy : Nat} (hx : ev σ x = some v) (hr : Rd E b v xs) (ht : slOf P tt = some (e, s, yy)) :
    PV P n σ w ⟨dst, .call ⟨.builtin .len, #[x], #[tt]⟩, ty, pos, af, gd⟩ (.int .i64 xs.length) := by
  obtain ⟨o, cap, rfl, _⟩ := hr.shape
  exact PV.lenS hx ht
theorem PV.lenO {tt e yy : Nat} {og : Option Nat} (hx : ev σ x = some v) (hr : Ow b og 1 v cs) (ht : slOf P tt = some (e, s, yy)) :
    PV P n σ w ⟨dst, .call ⟨.builtin .len, #[x], #[tt]⟩, ty, pos, af, gd⟩ (.int .i64 cs.length) := by
  obtain ⟨o, l, cap, rfl, h, _⟩ := hr.shape
  rw [h, Nat.mul_one]
  exact PV.lenS hx ht

/-- The fact of an element, ahead of the operation that takes its address. -/
theorem WL.at {α : Type} {E : Enc α} {xs : List α} {ops : Array Oper} {Q : Exit → Act → World → Prop} {l : List Oper} {kk : IntKind} (d : α) (_hx : ev σ x = some v) (_hy : ev σ y = some (.int kk (i : Int))) (hr : Rd E b v xs) (hi : i < xs.length)
    (K : ∀ p cs, EP v i E.size p → Cells b p cs → E.rep b (xs.getD i d) cs → WL P n ops Q l σ w) : WL P n ops Q l σ w := by
  obtain ⟨p, cs, h1, h2, h3⟩ := hr.at hi d
  exact K p cs h1 h2 h3
/-- The same where the index is a whole number. -/
theorem WL.atZ {α : Type} {E : Enc α} {xs : List α} {ops : Array Oper} {Q : Exit → Act → World → Prop} {l : List Oper} {kk : IntKind} {z : Int} (d : α) (_hx : ev σ x = some v) (_hy : ev σ y = some (.int kk z)) (hr : Rd E b v xs) (hz : 0 ≤ z ∧ z < xs.length)
    (K : ∀ p cs, EP v z.toNat E.size p → z = (z.toNat : Int) → Cells b p cs → E.rep b (xs.getD z.toNat d) cs → WL P n ops Q l σ w) : WL P n ops Q l σ w := by
  obtain ⟨p, cs, h1, h2, h3⟩ := hr.at (i := z.toNat) (by omega) d
  exact K p cs h1 (by omega) h2 h3
end

/-! ### Making and writing -/
section
variable {P : Program} {n : Nat} {σ : Fr} {w : World} {x y : Operand} {v : Value} {d : Nat} {ty : TypeId} {pos : String} {af : Array Edge} {gd : Option (Nat × Bool)} {t e : TypeId} {k m s yy : Nat} {p : Addr} {cs : List Value} {K : Fr → World → Prop}

/-- An operation that yields v and leaves w'. -/
theorem OpK.val {o : Oper} {w' : World} (hd : o.dst = some d) (hb : Nat.blt d n = true) (h : ∀ a, Ag n a σ → (execOp a.eval o).run P w = .ok (.value v) w') (hk : K ((d, v) :: σ) w') : OpK P n o σ w K := by
  constructor
  intro a ha K' Q' hK
  simp only [Oper.wp, h a ha, Oper.upon, hd]
  exact hK _ _ _ (ha.put hb v) hk
theorem OpK.unit {o : Oper} {w' : World} (hd : o.dst = none) (h : ∀ a, Ag n a σ → (execOp a.eval o).run P w = .ok .skip w') (hk : K σ w') : OpK P n o σ w K := by
  constructor
  intro a ha K' Q' hK
  simp only [Oper.wp, h a ha, Oper.upon, hd]
  exact hK _ _ _ ha hk

theorem Bx.new (w : World) (cs : List Value) (e : TypeId) : Bx (w.alloc (.cells cs.toArray e)) ⟨w.heap.size, 0, none⟩ cs := ⟨rfl, rfl, e, heap_alloc_new w _⟩

theorem OpK.alloc {z : Value} (hb : Nat.blt d n = true) (hz : zvOf P t = some z) (hc : z.cells = cs.toArray)
    (hk : ∀ p w', Ext w w' → Bx w' p cs → w.heap.size ≤ p.block → K ((d, .pointer (some p)) :: σ) w') : OpK P n ⟨some d, .alloc t, ty, pos, af, gd⟩ σ w K :=
  .val rfl hb (w' := w.alloc (.cells cs.toArray t)) (fun a _ => by simp [execOp, Instr.alloc, zvOf_run hz, newVar, newRow, hc]) (hk _ _ (Ext.alloc _ _) (Bx.new _ _ _) (Nat.le_refl _))
theorem OpK.box (hb : Nat.blt d n = true) (hx : ev σ x = some v) (hc : v.cells = cs.toArray)
    (hk : ∀ p w', Ext w w' → Bx w' p cs → w.heap.size ≤ p.block → K ((d, .pointer (some p)) :: σ) w') : OpK P n ⟨some d, .box t x, ty, pos, af, gd⟩ σ w K :=
  .val rfl hb (w' := w.alloc (.cells cs.toArray t)) (fun a ha => by simp [execOp, Instr.box, ha.eval hx, newVar, newRow, hc]) (hk _ _ (Ext.alloc _ _) (Bx.new _ _ _) (Nat.le_refl _))

theorem Upd.setCell (w : World) (p : Addr) (u : Value) : Upd (some p.block) w (w.setCell p u) :=
  ⟨rfl, rfl, rfl, by simp, fun k _ hk => by
    have : p.block ≠ k := fun h => hk (by simp [h])
    simp [World.setCell, Array.getElem?_modify, this]⟩
theorem setCell_heap {w : World} {g j : Nat} {cur : Array Value} {e : TypeId} {fr : Nat × Nat} {u : Value} (h : w.heap[g]? = some (.cells cur e fr)) : (w.setCell ⟨g, j, none⟩ u).heap[g]? = some (.cells (cur.setIfInBounds j u) e fr) := by
  simp [World.setCell, Array.getElem?_modify, h]
theorem run_storeAt_one {u : Value} (hs : szOf P t = some 1) (hu : u.oneCell' = true) (hc : (w.cell? p).isSome = true) (hf : w.frozen? p = false) (hsp : p.spot = none) : (Instr.storeAt t (.pointer (some p)) u).run P w = .ok () (w.setCell p u) := by
  obtain ⟨v, hv⟩ := Option.isSome_iff_exists.mp hc
  have hcell : u.cells = #[u] := by cases u <;> first | rfl | (simp [Value.oneCell'] at hu)
  simp only [Instr.storeAt, Instr.sureAddr, storeVar, Sem.run_bind, Sem.run_pure, Result.andThen_ok, szOf_run hs, hcell]
  simp [storeCells, add_padd hsp, padd_zero hsp, run_store P w p u .plain hu, hv, hf]

/-- A store into one cell of a box. -/
theorem OpK.storeB {u : Value} (hs : szOf P t = some 1) (hx : ev σ x = some (.pointer (some (padd p k)))) (hy : ev σ y = some u) (hu : u.oneCell' = true) (hb : Bx w p cs) (hk : Nat.blt k cs.length = true)
    (hK : ∀ w', Upd (some p.block) w w' → Bx w' p (cs.set k u) → K σ w') : OpK P n ⟨none, .store t x y, ty, pos, af, gd⟩ σ w K := by
  have hk : k < cs.length := by simpa using hk
  obtain ⟨e, he⟩ := hb.blk
  have hp : padd p k = ⟨p.block, k, none⟩ := by simp [padd, hb.off]
  refine .unit rfl (w' := w.setCell (padd p k) u) (fun a ha => ?_) (hK _ (Upd.setCell w (padd p k) u) ⟨hb.spot, hb.off, e, ?_⟩)
  · have h1 : (w.cell? (padd p k)).isSome = true := by rw [hb.cells.2 k cs[k] (by simp [hk])]; rfl
    have h2 : w.frozen? (padd p k) = false := by simp [World.frozen?, padd, he]
    simp [execOp, ha.eval hx, ha.eval hy, run_storeAt_one hs hu h1 h2 rfl]
  · rw [hp, setCell_heap he]; simp
/-- A store of a box's one cell. -/
theorem OpK.storeB0 {u u0 : Value} (hs : szOf P t = some 1) (hx : ev σ x = some (.pointer (some p))) (hy : ev σ y = some u) (hu : u.oneCell' = true) (hb : Bx w p [u0])
    (hK : ∀ w', Upd (some p.block) w w' → Bx w' p [u] → K σ w') : OpK P n ⟨none, .store t x y, ty, pos, af, gd⟩ σ w K := by
  have hp := padd_zero hb.spot
  rw [← hp] at hx
  exact .storeB hs hx hy hu hb rfl hK

theorem run_storeVar_box {e : TypeId} {old new : List Value} (hm : szOf P t = some new.length) (hl : old.length = new.length) (hg : w.heap[p.block]? = some (.cells old.toArray e (0, 0))) (hsp : p.spot = none) (ho : p.off = 0) (h1 : ∀ v ∈ new, v.oneCell' = true) :
    (Instr.storeAt t (.pointer (some p)) (.agg new.toArray)).run P w = .ok () (w.setRow p.block new.toArray) := by
  have hp : p = ⟨p.block, 0, none⟩ := by cases p; simp_all
  have h2 := run_storeCells_at P p.block 0 e new 0 old.toArray w hg (by simp [hl]) h1
  rw [← hp] at h2
  simp only [Instr.storeAt, Instr.sureAddr, storeVar, Sem.run_bind, Sem.run_pure, Result.andThen_ok, szOf_run hm]
  have hz : ¬ ((Value.agg new.toArray).cells.size ≠ new.length) := by simp [Value.cells]
  rw [if_neg hz]
  show (storeCells p new 0).run P w = _
  rw [h2]
  have hd : List.drop new.length old = [] := List.drop_eq_nil_of_le (by omega)
  simp [hd]
theorem Upd.setRow (w : World) (g : Nat) (cs : Array Value) : Upd (some g) w (w.setRow g cs) := ⟨rfl, rfl, rfl, by simp [World.setRow], fun k _ hk => setRow_other w g k cs (fun e => hk (by simp [e]))⟩
/-- A store of a whole struct into its box. -/
theorem OpK.storeA {new old : List Value} (hm : szOf P t = some m) (hx : ev σ x = some (.pointer (some p))) (hy : ev σ y = some (.agg new.toArray)) (hl : new.length = m) (ho : old.length = m) (h1 : ∀ v ∈ new, v.oneCell' = true) (hb : Bx w p old)
    (hK : ∀ w', Upd (some p.block) w w' → Bx w' p new → K σ w') : OpK P n ⟨none, .store t x y, ty, pos, af, gd⟩ σ w K := by
  obtain ⟨e, he⟩ := hb.blk
  refine .unit rfl (w' := w.setRow p.block new.toArray) (fun a ha => ?_) (hK _ (Upd.setRow _ _ _) ⟨hb.spot, hb.off, e, setRow_heap w _ _ _ _ _ he⟩)
  simp [execOp, ha.eval hx, ha.eval hy, run_storeVar_box (old := old) (hl ▸ hm) (by omega) he hb.spot hb.off h1]

/-- A store into an owned slice of one-cell elements. -/
theorem OpK.storeO {u : Value} {i : Nat} {og : Option Nat} (hs : szOf P t = some 1) (hx : ev σ x = some (.pointer (some p))) (hy : ev σ y = some u) (hu : u.oneCell' = true) (hp : EP v i 1 p) (ho : Ow w og 1 v cs)
    (hK : ∀ w', Upd og w w' → Ow w' og 1 v (cs.set i u) → K σ w') : OpK P n ⟨none, .store t x y, ty, pos, af, gd⟩ σ w K := by
  have ho' := ho
  obtain ⟨a0, l', cap', hv, hi, hsp, rfl⟩ := hp
  rcases ho with ⟨_, h, _⟩ | ⟨g, l, cap, cur, e, rfl, rfl, h3, h4, h5, h6, h7, h8⟩
  · simp [hv] at h
  simp at hv
  obtain ⟨rfl, rfl, rfl⟩ := hv
  have hpp : padd ⟨g, 0, none⟩ (i * 1) = ⟨g, i, none⟩ := by simp [padd]
  rw [hpp] at hx
  have hic : i < cs.length := by omega
  refine .unit rfl (w' := w.setCell ⟨g, i, none⟩ u) (fun a ha => ?_) (hK _ (Upd.setCell w ⟨g, i, none⟩ u) (.inr ⟨g, l, cap, _, e, rfl, rfl, setCell_heap h3, by simpa using h4, ?_, by simpa using h6, h7, h8⟩))
  · have k1 : (w.cell? ⟨g, i, none⟩).isSome = true := by
      have := (ho'.cellsAt rfl).2 i cs[i] (by simp [hic])
      simp only [padd, Nat.zero_add] at this
      rw [this]; rfl
    have k2 : w.frozen? ⟨g, i, none⟩ = false := by simp [World.frozen?, h3]
    simp [execOp, ha.eval hx, ha.eval hy, run_storeAt_one hs hu k1 k2 rfl]
  · rw [← h5]
    rw [Nat.mul_one, Array.toList_setIfInBounds, List.take_set]

theorem Ow.new (w : World) (cs : List Value) (e : TypeId) (l s : Nat) (h : cs.length = l * s) (hm : l ≤ maxLen) : Ow (w.alloc (.cells cs.toArray e)) (some w.heap.size) s (.slice (some ⟨w.heap.size, 0, none⟩) l l) cs :=
  .inr ⟨_, l, l, _, e, rfl, rfl, heap_alloc_new w _, h, by simp [← h], by simpa using h, Nat.le_refl _, hm⟩

/-- 'make([]T, l)', T of one cell. -/
theorem OpK.makeSlice {z : Value} {l : Nat} (hb : Nat.blt d n = true) (ht : slOf P t = some (e, 1, yy)) (hz : zvOf P e = some z) (hz1 : z.cells = #[z]) (hx : ev σ x = some (.int .i64 (l : Int))) (hy : ev σ y = some (.int .i64 (l : Int))) (hl : yy * l ≤ 140737488355328) (hl2 : l ≤ 140737488355328)
    (hk : ∀ v g w', Ext w w' → Ow w' (some g) 1 v (List.replicate l z) → w.heap.size ≤ g → K ((d, v) :: σ) w') : OpK P n ⟨some d, .makeSlice t x y, ty, pos, af, gd⟩ σ w K := by
  obtain ⟨h1, i, h2, h3, h4⟩ := slOf_spec ht
  have hz' : i.zero = some z := by simpa [zvOf, h2] using hz
  subst h4
  have hmk : madeCells z.cells (l * i.size) = (List.replicate l z).toArray := by
    rw [h3, Nat.mul_one, hz1]
    simp only [madeCells]
    apply Array.ext
    · simp
    · intro j h1 h2; simp [Nat.mod_one]
  have hby : (i.bytes : Int) * (l : Int) ≤ 281474976710656 := by
    have : ((i.bytes * l : Nat) : Int) ≤ 281474976710656 := by omega
    rwa [Int.natCast_mul] at this
  have hr := run_make (P := P) w t e i z h1 h2 hz' .i64 .i64 (l : Int) (l : Int) (by omega) (Int.le_refl _) hby (by omega)
  simp only [Int.toNat_natCast, hmk] at hr
  refine .val rfl hb (fun a ha => by simp [execOp, ha.eval hx, ha.eval hy, hr]) (hk _ _ _ (Ext.alloc _ _) (Ow.new w _ e l 1 (by simp) (by simp only [maxLen]; omega)) (Nat.le_refl _))

theorem run_append_room' (i : TypeInfo) (e' : TypeId) (h1 : P.underlying t = some (.slice e)) (h2 : P.info? e = some i)
    (g sLen sCap : Nat) (cur : Array Value) (hg : w.heap[g]? = some (.cells cur e' (0, 0)))
    (a : Addr) (m c : Nat) (news : List Value) (hl : news.length = m * i.size) (hnews : ∀ j u, news[j]? = some u → w.cell? (a.add j) = some u) (h1c : ∀ u ∈ news, u.oneCell' = true)
    (hroom : sLen + m ≤ sCap) (hfit : sLen * i.size + news.length ≤ cur.size) :
    (Builtin.append_ #[t, t] ty #[.slice (some ⟨g, 0, none⟩) sLen sCap, .slice (some a) m c]).run P w =
      .ok (.slice (some ⟨g, 0, none⟩) (sLen + m) sCap) (w.setRow g (cur.toList.take (sLen * i.size) ++ news ++ cur.toList.drop (sLen * i.size + news.length)).toArray) := by
  have hf := run_firstCells_some (P := P) w i.size m a m c news hl hnews
  have hst := run_storeCells_at P g (sLen * i.size) e' news 0 cur w hg (by simpa using hfit) h1c
  simp only [Nat.add_zero] at hst
  simp [Builtin.append_, run_underlying h1, sizeOf, typeInfo, h2, Builtin.lenOf, hroom, hf, Addr.add_lit, hst]

/-- 'append(s, x...)'. -/
theorem run_append_owX {i : TypeInfo} {z : Value} {og : Option Nat} {news : List Value} {xv : Value} {l : Nat} (h1 : P.underlying t = some (.slice e)) (h2 : P.info? e = some i) (h3 : i.zero = some z) (hzs : z.cells.size = i.size) (hsz : 0 < i.size)
    (ho : Ow w og i.size v cs) (hnl : news.length = l * i.size) (hx : (xv = .slice none 0 0 ∧ l = 0) ∨ ∃ a c, xv = .slice (some a) l c ∧ ∀ j u, news[j]? = some u → w.cell? (a.add j) = some u) (h1c : ∀ u ∈ news, u.oneCell' = true)
    (hN : (cs.length + news.length) * i.bytes ≤ 140737488355328) (hN2 : cs.length + news.length ≤ 140737488355328) :
    ∃ v' w' og', (Builtin.append_ #[t, t] ty #[v, xv]).run P w = .ok v' w' ∧ Ow w' og' i.size v' (cs ++ news) ∧ Upd og w w' ∧ (og' = og ∨ ∃ g, og' = some g ∧ w.heap.size ≤ g) ∧ (og' = og ∨ Ext w w') := by
  have hlen : ∀ m, cs.length = m * i.size → (m + l) ≤ cs.length + news.length := fun m hm => by
    have a1 : m * 1 ≤ m * i.size := Nat.mul_le_mul_left _ hsz
    have a2 : l * 1 ≤ l * i.size := Nat.mul_le_mul_left _ hsz
    omega
  have hby : ∀ m, cs.length = m * i.size → (m + l) * i.bytes ≤ 140737488355328 := fun m hm => Nat.le_trans (Nat.mul_le_mul_right _ (hlen m hm)) hN
  have hoo := ho
  rcases hx with ⟨rfl, rfl⟩ | ⟨a, c, rfl, hnews⟩
  · -- nothing is appended
    have hn : news = [] := List.eq_nil_of_length_eq_zero (by simpa using hnl)
    subst hn
    refine ⟨v, w, og, ?_, by simpa using ho, (Ext.refl w).toUpd, .inl rfl, .inl rfl⟩
    rcases ho with ⟨rfl, rfl, rfl⟩ | ⟨g, m, cap, cur, e', rfl, rfl, k3, k4, k5, k6, k7, k8⟩
    · simp [Builtin.append_, run_underlying h1, sizeOf, typeInfo, h2, Builtin.lenOf, Builtin.firstCells]
    · simp [Builtin.append_, run_underlying h1, sizeOf, typeInfo, h2, Builtin.lenOf, Builtin.firstCells, k7, storeCells]
  · rcases ho with ⟨rfl, rfl, rfl⟩ | ⟨g, m, cap, cur, e', rfl, rfl, k3, k4, k5, k6, k7, k8⟩
    · by_cases hl0 : l = 0
      · subst hl0
        have hn : news = [] := List.eq_nil_of_length_eq_zero (by simpa using hnl)
        subst hn
        refine ⟨.slice none 0 0, w, none, ?_, .inl ⟨rfl, rfl, rfl⟩, Ext.refl w, .inl rfl, .inl rfl⟩
        simp [Builtin.append_, run_underlying h1, sizeOf, typeInfo, h2, Builtin.lenOf, Builtin.firstCells, loadCells, loadCellsFrom]
      · have hb := hby 0 (by simp)
        have hr := run_append_nil (P := P) w t ty e i z h1 h2 h3 a l c news hnl hnews (by omega) (by have := hlen 0 (by simp); omega) (by simp at hb; omega)
        have hge := grownCap_ge w l 0 e
        refine ⟨_, _, some w.heap.size, hr, .inr ⟨_, l, grownCap w l 0 e, _, e, rfl, rfl, heap_alloc_new w.drew _, by simpa using hnl, ?_, ?_, hge, ?_⟩, ?_, .inr ⟨_, rfl, Nat.le_refl _⟩, .inr ?_⟩
        · simp only [Array.toList_append, List.nil_append]
          rw [← hnl]; exact List.take_left
        · simp only [Array.size_append, List.size_toArray, size_zeroCells, hzs, hnl, ← Nat.add_mul]
          congr 1; omega
        · exact grownCap_le_maxLen w l 0 e (by have := hlen 0 (by simp); simp only [maxLen]; omega)
        · exact ⟨rfl, rfl, rfl, by simp, fun k hk _ => heap_alloc_old w.drew _ hk⟩
        · exact ⟨rfl, rfl, rfl, by simp, fun k hk _ => heap_alloc_old w.drew _ hk⟩
    · have hb := hby m k4
      have hl' := hlen m k4
      by_cases hroom : m + l ≤ cap
      · have hfit : m * i.size + news.length ≤ cur.size := by rw [hnl, k6, ← Nat.add_mul]; exact Nat.mul_le_mul_right _ hroom
        have hr := run_append_room' (P := P) (ty := ty) i e' h1 h2 g m cap cur k3 a l c news hnl hnews h1c hroom hfit
        have hll : (cs ++ news).length = (m + l) * i.size := by rw [List.length_append, k4, hnl, Nat.add_mul]
        refine ⟨_, _, some g, hr, .inr ⟨g, m + l, cap, _, e', rfl, rfl, setRow_heap w g cur _ e' _ k3, hll, ?_, ?_, hroom, k8⟩, Upd.setRow _ _ _, .inl rfl, .inl rfl⟩
        · simp only [k5]
          rw [← hll]; exact List.take_left
        · simp only [List.size_toArray, List.length_append, List.length_take, List.length_drop, Array.length_toList]
          omega
      · have holds : ∀ j u, cs[j]? = some u → w.cell? ((⟨g, 0, none⟩ : Addr).add j) = some u := fun j u hj => by
          rw [add_padd rfl]; exact (hoo.cellsAt rfl).2 j u hj
        have hr := run_append_grow (P := P) w t ty e i z h1 h2 h3 ⟨g, 0, none⟩ m cap cs k4 holds a l c news hnl hnews (by omega) (by omega) (growslice_fits (by omega) hb)
        have hge := grownCap_ge w (m + l) cap e
        have hll : (cs ++ news).length = (m + l) * i.size := by rw [List.length_append, k4, hnl, Nat.add_mul]
        refine ⟨_, _, some w.heap.size, hr, .inr ⟨_, m + l, _, _, e, rfl, rfl, heap_alloc_new w.drew _, hll, ?_, ?_, hge, ?_⟩, ?_, .inr ⟨_, rfl, Nat.le_refl _⟩, .inr ?_⟩
        · simp only [Array.toList_append, List.append_assoc]
          rw [← List.append_assoc, ← hll]; exact List.take_left
        · simp only [Array.size_append, List.size_toArray, size_zeroCells, hzs, k4, hnl, ← Nat.add_mul]
          congr 1; omega
        · exact grownCap_le_maxLen w (m + l) cap e (by simp only [maxLen]; omega)
        · exact ⟨rfl, rfl, rfl, by simp, fun k hk _ => heap_alloc_old w.drew _ hk⟩
        · exact ⟨rfl, rfl, rfl, by simp, fun k hk _ => heap_alloc_old w.drew _ hk⟩
theorem run_append_ow {i : TypeInfo} {z : Value} {og : Option Nat} {news : List Value} {xv : Value} {l : Nat} (h1 : P.underlying t = some (.slice e)) (h2 : P.info? e = some i) (h3 : i.zero = some z) (hzs : z.cells.size = i.size) (hsz : 0 < i.size)
    (ho : Ow w og i.size v cs) (hnl : news.length = l * i.size) (hx : (xv = .slice none 0 0 ∧ l = 0) ∨ ∃ a c, xv = .slice (some a) l c ∧ ∀ j u, news[j]? = some u → w.cell? (a.add j) = some u) (h1c : ∀ u ∈ news, u.oneCell' = true)
    (hN : (cs.length + news.length) * i.bytes ≤ 140737488355328) (hN2 : cs.length + news.length ≤ 140737488355328) :
    ∃ v' w' og', (Builtin.append_ #[t, t] ty #[v, xv]).run P w = .ok v' w' ∧ Ow w' og' i.size v' (cs ++ news) ∧ Upd og w w' ∧ (og' = og ∨ ∃ g, og' = some g ∧ w.heap.size ≤ g) := by
  obtain ⟨v', w', og', k1, k2, k3, k4, _⟩ := run_append_owX (P := P) (ty := ty) h1 h2 h3 hzs hsz ho hnl hx h1c hN hN2
  exact ⟨v', w', og', k1, k2, k3, k4⟩
end
end Go.WX
