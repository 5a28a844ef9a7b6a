/- What a call owns: that its blocks are new and apart; slices of one-cell elements, typed. No condition. -/
import Derived.Test.YthemmoceomdccaaLibF
namespace Go.WX
open Go

/-- Two blocks that are owned are not one. -/
def Dj (a b : Option Nat) : Prop := ∀ g, a = some g → b ≠ some g
/-- An owned block is newer than the world b. -/
def Lo (b : World) (og : Option Nat) : Prop := ∀ g, og = some g → b.heap.size ≤ g

theorem Dj.symm {a b : Option Nat} (h : Dj a b) : Dj b a := fun g hb ha => h g ha hb
theorem Dj.nl (a : Option Nat) : Dj none a := fun g h => by cases h
theorem Dj.nlR (a : Option Nat) : Dj a none := (Dj.nl a).symm
theorem Lo.nl (b : World) : Lo b none := fun g h => by cases h
theorem Lo.new {b w : World} {g : Nat} (h : Ext b w) (hg : w.heap.size ≤ g) : Lo b (some g) := fun k hk => by
  have := h.size; simp at hk; omega
theorem Lo.up {b c : World} {og : Option Nat} (h : Lo c og) (e : Ext b c) : Lo b og := fun g hg => Nat.le_trans e.size (h g hg)
theorem Ow.ltO {w : World} {og : Option Nat} {s : Nat} {v : Value} {cs : List Value} (h : Ow w og s v cs) : ∀ g, og = some g → g < w.heap.size := fun g hg => by subst hg; exact h.lt
theorem Bx.ltO {w : World} {p : Addr} {cs : List Value} (h : Bx w p cs) : ∀ g, some p.block = some g → g < w.heap.size := fun g hg => by simp at hg; subst hg; exact h.lt
theorem Dj.new {w : World} {a : Option Nat} {g : Nat} (h : ∀ k, a = some k → k < w.heap.size) (hg : w.heap.size ≤ g) : Dj a (some g) := fun k hk he => by
  have := h k hk; simp at he; omega
/-- Behind an append. -/
theorem Dj.app {w : World} {a og og' : Option Nat} (h : Dj a og) (hlt : ∀ k, a = some k → k < w.heap.size) (ho : og' = og ∨ ∃ g, og' = some g ∧ w.heap.size ≤ g) : Dj a og' := by
  rcases ho with rfl | ⟨g, rfl, hg⟩
  · exact h
  · exact .new hlt hg
theorem Lo.app {b w : World} {og og' : Option Nat} (h : Lo b og) (e : Ext b w) (ho : og' = og ∨ ∃ g, og' = some g ∧ w.heap.size ≤ g) : Lo b og' := by
  rcases ho with rfl | ⟨g, rfl, hg⟩
  · exact h
  · exact .new e hg
theorem Ext.updL {b w w' : World} {og : Option Nat} (h : Ext b w) (u : Upd og w w') (hg : Lo b og) : Ext b w' := h.updO u hg
theorem Ow.updD {w w' : World} {og og' : Option Nat} {s : Nat} {v : Value} {cs : List Value} (h : Ow w og s v cs) (u : Upd og' w w') (d : Dj og og') : Ow w' og s v cs := h.upd u d
theorem Bx.updD {w w' : World} {og' : Option Nat} {p : Addr} {cs : List Value} (h : Bx w p cs) (u : Upd og' w w') (d : Dj (some p.block) og') : Bx w' p cs := h.upd u (d _ rfl)

/-- An owned slice of one-cell elements. -/
def Osl {α : Type} (f : α → Value) (w : World) (og : Option Nat) (v : Value) (xs : List α) : Prop := Ow w og 1 v (xs.map f)

section
variable {α : Type} {f : α → Value} {w w' : World} {og og' : Option Nat} {v : Value} {xs : List α}
theorem Osl.up (h : Osl f w og v xs) (u : Ext w w') : Osl f w' og v xs := Ow.up h u
theorem Osl.updD (h : Osl f w og v xs) (u : Upd og' w w') (d : Dj og og') : Osl f w' og v xs := Ow.updD h u d
theorem Osl.ltO (h : Osl f w og v xs) : ∀ g, og = some g → g < w.heap.size := Ow.ltO h
theorem Osl.rd (h : Osl f w og v xs) : Rd (.sc f) w v xs := Ow.rd h
theorem Osl.nil (f : α → Value) (w : World) : Osl f w none (.slice none 0 0) [] := Ow.nil w 1
theorem Osl.oneCell (h : Osl f w og v xs) : v.oneCell' = true := Ow.oneCell h
theorem Osl.cells1 (h : Osl f w og v xs) : v.cells = #[v] := Ow.cells1 h
theorem Osl.le (h : Osl f w og v xs) : xs.length ≤ 9223372036854775807 := h.rd.le
theorem Osl.leI (h : Osl f w og v xs) : (xs.length : Int) ≤ 9223372036854775807 := h.rd.leI
theorem Rd.oneCell {E : Enc α} (h : Rd E w v xs) : v.oneCell' = true := by obtain ⟨o, cap, rfl, _⟩ := h.shape; rfl
end

section
variable {P : Program} {n : Nat} {σ : Fr} {w : World} {x y : Operand} {v xv : Value} {d : Nat} {dst : Option Tmp} {ty : TypeId} {pos : String} {af : Array Edge} {gd : Option (Nat × Bool)} {t e : TypeId} {k m yy : Nat} {p : Addr} {K : Fr → World → Prop} {α : Type} {f : α → Value} {og : Option Nat} {xs ys : List α} {z : α}

theorem PV.lenOs {tt s : Nat} {b : World} (hx : ev σ x = some v) (hr : Osl f b og v xs) (ht : slOf P tt = some (e, s, yy)) :
    PV P n σ w ⟨dst, .call ⟨.builtin .len, #[x], #[tt]⟩, ty, pos, af, gd⟩ (.int .i64 xs.length) := by
  have := PV.lenO (P := P) (n := n) (w := w) (dst := dst) (ty := ty) (pos := pos) (af := af) (gd := gd) hx hr ht
  rwa [List.length_map] at this

theorem Osl.at (h : Osl f w og v xs) {i : Nat} (hi : i < xs.length) (dv : α) : ∃ p, EP v i 1 p ∧ Cells w p [f (xs.getD i dv)] := by
  obtain ⟨p, h1, h2, _⟩ := Ow.at h (i := i) (by simpa using hi)
  refine ⟨p, h1, ?_⟩
  simpa [List.getD_eq_getElem?_getD, hi] using h2
theorem WL.atO {ops : Array Oper} {Q : Exit → Act → World → Prop} {l : List Oper} {kk : IntKind} {i : Nat} (dv : α) (_hx : ev σ x = some v) (_hy : ev σ y = some (.int kk (i : Int))) (ho : Osl f w og v xs) (hi : i < xs.length)
    (K : ∀ p, EP v i 1 p → Cells w p [f (xs.getD i dv)] → WL P n ops Q l σ w) : WL P n ops Q l σ w := by
  obtain ⟨p, h1, h2⟩ := ho.at hi dv
  exact K p h1 h2
theorem WL.atOZ {ops : Array Oper} {Q : Exit → Act → World → Prop} {l : List Oper} {kk : IntKind} {i : Int} (dv : α) (_hx : ev σ x = some v) (_hy : ev σ y = some (.int kk i)) (ho : Osl f w og v xs) (hi : 0 ≤ i ∧ i < xs.length)
    (K : ∀ p, EP v i.toNat 1 p → i = (i.toNat : Int) → Cells w p [f (xs.getD i.toNat dv)] → WL P n ops Q l σ w) : WL P n ops Q l σ w := by
  obtain ⟨p, h1, h2⟩ := ho.at (i := i.toNat) (by omega) dv
  exact K p h1 (by omega) h2
section
variable {l : List Oper} {Q : Exit → Act → World → Prop} {S : World → Prop} {L : Nat} {r : Pl} {wb : World}
theorem HP.atO {kk : IntKind} {i : Nat} (dv : α) (_hx : ev σ x = some v) (_hy : ev σ y = some (.int kk (i : Int))) (ho : Osl f wb og v xs) (hi : i < xs.length)
    (K : ∀ p, EP v i 1 p → Cells wb p [f (xs.getD i dv)] → HP P n l Q S L r σ w) : HP P n l Q S L r σ w := by
  obtain ⟨p, h1, h2⟩ := ho.at hi dv
  exact K p h1 h2
theorem HP.atOZ {kk : IntKind} {i : Int} (dv : α) (_hx : ev σ x = some v) (_hy : ev σ y = some (.int kk i)) (ho : Osl f wb og v xs) (hi : 0 ≤ i ∧ i < xs.length)
    (K : ∀ p, EP v i.toNat 1 p → i = (i.toNat : Int) → Cells wb p [f (xs.getD i.toNat dv)] → HP P n l Q S L r σ w) : HP P n l Q S L r σ w := by
  obtain ⟨p, h1, h2⟩ := ho.at (i := i.toNat) (by omega) dv
  exact K p h1 (by omega) h2
end

theorem OpK.storeS (f : α → Value) {i : Nat} (hs : szOf P t = some 1) (hx : ev σ x = some (.pointer (some p))) (hy : ev σ y = some (f z)) (hu : (f z).oneCell' = true) (hp : EP v i 1 p) (ho : Osl f w og v xs)
    (hK : ∀ w', Upd og w w' → Osl f w' og v (xs.set i z) → K σ w') : OpK P n ⟨none, .store t x y, ty, pos, af, gd⟩ σ w K :=
  .storeO hs hx hy hu hp ho (fun w' h1 h2 => hK w' h1 (by unfold Osl; rw [List.map_set]; exact h2))

theorem OpK.makeS (f : α → Value) (z : α) {l : Nat} (hb : Nat.blt d n = true) (ht : slOf P t = some (e, 1, yy)) (hz : zvOf P e = some (f z)) (hz1 : (f z).cells = #[f z]) (hx : ev σ x = some (.int .i64 (l : Int))) (hy : ev σ y = some (.int .i64 (l : Int))) (hl : yy * l ≤ 140737488355328 ∧ l ≤ 140737488355328)
    (hk : ∀ v g w', Ext w w' → Osl f w' (some g) v (List.replicate l z) → w.heap.size ≤ g → K ((d, v) :: σ) w') : OpK P n ⟨some d, .makeSlice t x y, ty, pos, af, gd⟩ σ w K :=
  .makeSlice hb ht hz hz1 hx hy hl.1 hl.2 (fun v g w' h1 h2 h3 => hk v g w' h1 (by unfold Osl; rw [List.map_replicate]; exact h2) h3)
/-- 'make' at a size that is a whole number. -/
theorem OpK.makeSZ (f : α → Value) (z : α) {l : Int} (hb : Nat.blt d n = true) (ht : slOf P t = some (e, 1, yy)) (hz : zvOf P e = some (f z)) (hz1 : (f z).cells = #[f z]) (hx : ev σ x = some (.int .i64 l)) (hy : ev σ y = some (.int .i64 l)) (h0 : 0 ≤ l) (hl : yy * l.toNat ≤ 140737488355328 ∧ l.toNat ≤ 140737488355328)
    (hk : ∀ v g w', Ext w w' → Osl f w' (some g) v (List.replicate l.toNat z) → w.heap.size ≤ g → K ((d, v) :: σ) w') : OpK P n ⟨some d, .makeSlice t x y, ty, pos, af, gd⟩ σ w K := by
  have e : l = (l.toNat : Int) := by omega
  rw [e] at hx hy
  exact .makeS f z hb ht hz hz1 hx hy hl hk

theorem OpK.buildS (f : α → Value) {os : List Operand} (zs : List α) {l : Nat} {parts : Array (Nat × Operand)} (hb : Nat.blt d n = true) (ht : slOf P t = some (e, 1, yy)) (hp : parts.toList = os.zipIdx.map fun (x, i) => (i, x)) (hl : os.length = l)
    {zv : Value} (hz : zvOf P e = some zv) (hx : evs σ os = some (zs.map f)) (h1 : ∀ z ∈ zs, (f z).cells = #[f z]) (hbig : Nat.ble (l * 1) 1000 = true)
    (hk : ∀ v g w', Ext w w' → Osl f w' (some g) v zs → w.heap.size ≤ g → K ((d, v) :: σ) w') : OpK P n ⟨some d, .buildSlice t l parts, ty, pos, af, gd⟩ σ w K := by
  refine .buildSlice (css := zs.map fun z => [f z]) hb ht hp hl hz hx ?_ ?_ hbig rfl (fun v g w' k1 k2 k3 => hk v g w' k1 ?_ k3)
  · simp only [List.map_map]
    exact List.map_congr_left (fun z hz => by simp [h1 z hz])
  · intro c hc
    obtain ⟨z, _, rfl⟩ := List.mem_map.1 hc
    rfl
  · have e1 : ∀ zs : List α, (zs.map fun z => [f z]).flatten = zs.map f := by
      intro zs; induction zs with
      | nil => rfl
      | cons a r ih => simp [ih]
    unfold Osl; rw [← e1]; exact k2

theorem OpK.appendS {zv : Value} (hb : Nat.blt d n = true) (ht : slOf P t = some (e, 1, yy)) (hz : zvOf P e = some zv) (hzs : zv.cells.size = 1)
    (hx : ev σ x = some v) (ho : Osl f w og v xs) (hy : ev σ y = some xv) (hsrc : Src w 1 xv (ys.map f))
    (hN : (xs.length + ys.length) * yy ≤ 140737488355328 ∧ xs.length + ys.length ≤ 140737488355328)
    (hk : ∀ v' og' w', Upd og w w' → Osl f w' og' v' (xs ++ ys) → (og' = og ∨ ∃ g, og' = some g ∧ w.heap.size ≤ g) → K ((d, v') :: σ) w') :
    OpK P n ⟨some d, .call ⟨.builtin .append, #[x, y], #[t, t]⟩, ty, pos, af, gd⟩ σ w K :=
  .append hb ht hz hzs rfl hx ho hy hsrc (by simpa using hN) (fun v' og' w' h1 h2 h3 => hk v' og' w' h1 (by unfold Osl; rw [List.map_append]; exact h2) h3)
theorem Osl.src (h : Osl f w og xv ys) (h1 : ∀ z, (f z).oneCell' = true) : Src w 1 xv (ys.map f) := Ow.src h (fun u hu => by
  obtain ⟨z, _, rfl⟩ := List.mem_map.1 hu
  exact h1 z)
end
end Go.WX
