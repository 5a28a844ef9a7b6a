/- Worlds behind a loop's rounds: all that was there is as it was but for the blocks of a list. No condition. -/
import Derived.Test.YthemmoceomdccaaLibG
namespace Go.WX
open Go

def AllO (p : Option Nat → Prop) : List (Option Nat) → Prop
  | [] => True
  | a :: r => p a ∧ AllO p r
theorem AllO.of {p : Option Nat → Prop} : ∀ {l : List (Option Nat)}, AllO p l → ∀ o ∈ l, p o
  | [], _, o, h => by cases h
  | a :: r, h, o, ho => by
    rcases List.mem_cons.1 ho with rfl | ho
    · exact h.1
    · exact AllO.of h.2 o ho

/-- Block og is one of the list, or newer than the world c. -/
def OkB (bad : List (Option Nat)) (c : World) (og : Option Nat) : Prop := ∀ g, og = some g → some g ∈ bad ∨ c.heap.size ≤ g
theorem OkB.mem {bad : List (Option Nat)} {c : World} {og : Option Nat} (h : og ∈ bad) : OkB bad c og := fun g hg => .inl (hg ▸ h)
theorem OkB.nl {bad : List (Option Nat)} {c : World} : OkB bad c none := fun g hg => by cases hg
theorem OkB.new {bad : List (Option Nat)} {c w : World} {g : Nat} (hs : c.heap.size ≤ w.heap.size) (hg : w.heap.size ≤ g) : OkB bad c (some g) := fun k hk => .inr (by simp at hk; omega)
theorem OkB.lo {bad : List (Option Nat)} {c w : World} {og : Option Nat} (hs : c.heap.size ≤ w.heap.size) (hg : Lo w og) : OkB bad c og := fun k hk => .inr (Nat.le_trans hs (hg k hk))
theorem OkB.app {bad : List (Option Nat)} {c w : World} {og og' : Option Nat} (h : OkB bad c og) (hs : c.heap.size ≤ w.heap.size) (ho : og' = og ∨ ∃ g, og' = some g ∧ w.heap.size ≤ g) : OkB bad c og' := by
  rcases ho with rfl | ⟨g, rfl, hg⟩
  · exact h
  · exact .new hs hg

structure UpdL (bad : List (Option Nat)) (c w : World) : Prop where
  os : w.os = c.os
  tape : w.tape = c.tape
  output : w.output = c.output
  size : c.heap.size ≤ w.heap.size
  block : ∀ k, k < c.heap.size → some k ∉ bad → w.heap[k]? = c.heap[k]?

theorem UpdL.refl (bad : List (Option Nat)) (c : World) : UpdL bad c c := ⟨rfl, rfl, rfl, Nat.le_refl _, fun _ _ _ => rfl⟩
theorem UpdL.step {bad : List (Option Nat)} {c w w' : World} {og : Option Nat} (h : UpdL bad c w) (u : Upd og w w') (o : OkB bad c og) : UpdL bad c w' :=
  ⟨u.os.trans h.os, u.tape.trans h.tape, u.output.trans h.output, Nat.le_trans h.size u.size, fun k hk hn => (u.block k (Nat.lt_of_lt_of_le hk h.size) (fun e => by
    rcases o k e.symm with h1 | h1
    · exact hn h1
    · omega)).trans (h.block k hk hn)⟩
theorem UpdL.ext {bad : List (Option Nat)} {c w w' : World} (h : UpdL bad c w) (u : Ext w w') : UpdL bad c w' := h.step u OkB.nl
theorem UpdL.trans {bad bad' : List (Option Nat)} {c d w : World} (h : UpdL bad c d) (k : UpdL bad' d w) (o : AllO (OkB bad c) bad') : UpdL bad c w :=
  ⟨k.os.trans h.os, k.tape.trans h.tape, k.output.trans h.output, Nat.le_trans h.size k.size, fun j hj hn => (k.block j (Nat.lt_of_lt_of_le hj h.size) (fun hm => by
    rcases o.of _ hm j rfl with h1 | h1
    · exact hn h1
    · omega)).trans (h.block j hj hn)⟩
theorem UpdL.toExt {c w : World} (h : UpdL [] c w) : Ext c w := ⟨h.os, h.tape, h.output, h.size, fun k hk _ => h.block k hk (by simp)⟩
theorem Ext.loop {b c w : World} {bad : List (Option Nat)} (h : Ext b c) (u : UpdL bad c w) (l : AllO (Lo b) bad) : Ext b w :=
  ⟨u.os.trans h.os, u.tape.trans h.tape, u.output.trans h.output, Nat.le_trans h.size u.size, fun k hk _ => (u.block k (Nat.lt_of_lt_of_le hk h.size) (fun hm => by
    have := l.of _ hm k rfl
    omega)).trans (Ext.blk h hk)⟩
theorem Bx.loop {c w : World} {bad : List (Option Nat)} {p : Addr} {cs : List Value} (h : Bx c p cs) (u : UpdL bad c w) (d : AllO (Dj (some p.block)) bad) : Bx w p cs :=
  ⟨h.spot, h.off, by
    obtain ⟨e, he⟩ := h.blk
    exact ⟨e, (u.block _ h.lt (fun hm => d.of _ hm _ rfl rfl)).trans he⟩⟩
theorem Ow.loop {c w : World} {bad : List (Option Nat)} {og : Option Nat} {s : Nat} {v : Value} {cs : List Value} (h : Ow c og s v cs) (u : UpdL bad c w) (d : AllO (Dj og) bad) : Ow w og s v cs := by
  rcases h with h | ⟨g, l, cap, cur, e, h1, h2, h3, hr⟩
  · exact .inl h
  · refine .inr ⟨g, l, cap, cur, e, h1, h2, ?_, hr⟩
    rw [u.block g (Array.getElem?_eq_some_iff.1 h3).1 (fun hm => d.of _ hm g h1 rfl)]; exact h3
theorem Osl.loop {α : Type} {f : α → Value} {c w : World} {bad : List (Option Nat)} {og : Option Nat} {v : Value} {xs : List α} (h : Osl f c og v xs) (u : UpdL bad c w) (d : AllO (Dj og) bad) : Osl f w og v xs := Ow.loop h u d

/-- Of a loop whose list is known by its 'UpdL'. -/
theorem OkN.new {bad : List (Option Nat)} {c w : World} {g : Nat} (h : UpdL bad c w) (hg : w.heap.size ≤ g) : OkB bad c (some g) := .new h.size hg
theorem OkN.lo {bad : List (Option Nat)} {c w : World} {og : Option Nat} (h : UpdL bad c w) (hg : Lo w og) : OkB bad c og := .lo h.size hg
theorem OkN.nl {bad : List (Option Nat)} {c w : World} (_h : UpdL bad c w) : OkB bad c none := .nl
theorem OkN.app {bad : List (Option Nat)} {c w : World} {og og' : Option Nat} (h : UpdL bad c w) (k : OkB bad c og) (ho : og' = og ∨ ∃ g, og' = some g ∧ w.heap.size ≤ g) : OkB bad c og' := k.app h.size ho
theorem Dj.lo {w : World} {a b : Option Nat} (h : ∀ k, a = some k → k < w.heap.size) (hg : Lo w b) : Dj a b := fun k hk hb => by
  have := h k hk; have := hg k hb; omega

theorem osE {α : Type} {f : α → Value} {w : World} {og : Option Nat} {v : Value} {xs ys : List α} (h : Osl f w og v xs) (e : xs = ys) : Osl f w og v ys := e ▸ h
theorem rdE {α : Type} {E : Enc α} {w : World} {v : Value} {xs ys : List α} (h : Rd E w v xs) (e : xs = ys) : Rd E w v ys := e ▸ h
theorem bxE {w : World} {p : Addr} {xs ys : List Value} (h : Bx w p xs) (e : xs = ys) : Bx w p ys := e ▸ h
end Go.WX
