/- What the reading of a struct says of its cells. No condition. -/
import Derived.Test.YthemmoceomdccaaLibI
import Derived.Test.YthemmoceomdccaaLibL
namespace Go.WX
open Go

/-- The fields fs, from cell off on, lie as E says. -/
def TrFs {α : Type} (P : Program) (fs : List Field) (off : Nat) (E : Enc α) (G : α → Prop) : Prop :=
  ∀ {H : Type} {enc : TypeId × Value → H} {w : World} {base : Nat} {spare : Nat → Bool} {held : Bool} {fuel : Nat} {cs : List Value},
    (∀ f ∈ fs, ∃ y, DataW.trod enc P w base spare held fuel f.type ((cs.drop f.offset).take (P.cellsOf f.type)) = some y) → cs.length = off + E.size → ∃ a, E.rep w a (cs.drop off) ∧ G a

theorem TrFs.one {α : Type} {P : Program} {f : Field} {off : Nat} {E : Enc α} {G : α → Prop} (h : Tr P f.type E G) (ho : f.offset = off) (hs : P.cellsOf f.type = E.size) : TrFs P [f] off E G := fun hf hl => by
  obtain ⟨y, hy⟩ := hf f (by simp)
  obtain ⟨a, h1, h2⟩ := h hy
  rw [ho, hs, List.take_of_length_le (by simp; omega)] at h1
  exact ⟨a, h1, h2⟩
theorem TrFs.cons {α β : Type} {P : Program} {f : Field} {fs : List Field} {off : Nat} {A : Enc α} {B : Enc β} {G : α → Prop} {G' : β → Prop} (h : Tr P f.type A G) (ho : f.offset = off) (hs : P.cellsOf f.type = A.size) (hr : TrFs P fs (off + A.size) B G') :
    TrFs P (f :: fs) off (EP2 A B) (fun x => G x.1 ∧ G' x.2) := fun hf hl => by
  obtain ⟨y, hy⟩ := hf f (by simp)
  obtain ⟨a, h1, h2⟩ := h hy
  have hl' : (EP2 A B).size = A.size + B.size := rfl
  obtain ⟨b, h3, h4⟩ := hr (fun g hg => hf g (by simp [hg])) (by rw [hl, hl']; omega)
  rw [ho, hs] at h1
  exact ⟨(a, b), ⟨_, _, by rw [← List.drop_drop, List.take_append_drop], h1, h3⟩, h2, h4⟩
theorem Tr.struct {α : Type} {P : Program} {t : TypeId} {fs : List Field} {E : Enc α} {G : α → Prop} (ht : P.underlying t = some (.struct fs.toArray)) (hc : P.cellsOf t = E.size) (h : TrFs P fs 0 E G) : Tr P t E G := fun hx => by
  obtain ⟨xs, n, _, _, hl, hlen, hf⟩ := DataW.trod_struct ht hx
  obtain ⟨a, h1, h2⟩ := h (fun f hfm => by
    obtain ⟨i, hi, rfl⟩ := List.mem_iff_getElem.1 hfm
    have h3 := hf i fs[i] (by simp [hi])
    have hi' : i < xs.length := by rw [hlen]; simpa using hi
    exact ⟨xs[i], by rw [h3]; simp [hi']⟩) (by rw [hl, hc]; simp)
  exact ⟨a, by simpa using h1, h2⟩
theorem Tr.r4 {P : Program} {t : TypeId} {G : R4 → Prop} (h : Tr P t (EP2 EI (EP2 EI (EP2 EI EI))) G) : Tr P t ER G := fun hx => by
  obtain ⟨a, ⟨c, d, rfl, hc, c2, d2, hd, hc2, c3, d3, hd2, hc3, hd3⟩, hg⟩ := h hx
  refine ⟨a, ?_, hg⟩
  have e1 : c = [VI a.1] := hc
  have e2 : c2 = [VI a.2.1] := hc2
  have e3 : c3 = [VI a.2.2.1] := hc3
  have e4 : d3 = [VI a.2.2.2] := hd3
  show c ++ d = gR a
  rw [hd, hd2, e1, e2, e3, e4]; rfl
end Go.WX
