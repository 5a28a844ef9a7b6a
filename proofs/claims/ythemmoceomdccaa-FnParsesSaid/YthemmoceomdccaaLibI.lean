/- What an argument's reading says of its cells. No condition. -/
import Derived.Test.YthemmoceomdccaaLibH
import Derived.ProofKit
import Derived.OpenShut
namespace Go.WX
open Go

/-- Whatever reads as data of type t lies in cells as E says, and meets G. -/
def Tr {α : Type} (P : Program) (t : TypeId) (E : Enc α) (G : α → Prop) : Prop :=
  ∀ {H : Type} {enc : TypeId × Value → H} {w : World} {base : Nat} {spare : Nat → Bool} {held : Bool} {fuel : Nat} {cs : List Value} {x : DataW H × List MemPlace},
    DataW.trod enc P w base spare held fuel t cs = some x → ∃ a, E.rep w a cs ∧ G a

theorem Tr.int {P : Program} {t : TypeId} (h : P.underlying t = some (.int .i64)) : Tr P t EI R64 := fun hx => by
  obtain ⟨n, rfl, rfl, hw⟩ := DataW.trod_int h hx
  refine ⟨n, rfl, ?_⟩
  simp only [Lit.wf, IntKind.min, IntKind.max, IntKind.signed, IntKind.bits, Bool.and_eq_true, decide_eq_true_eq, if_true] at hw
  exact ⟨by omega, by omega⟩
theorem Tr.u8 {P : Program} {t : TypeId} (h : P.underlying t = some (.int .u8)) : Tr P t EU8 (fun n => 0 ≤ n ∧ n ≤ 255) := fun hx => by
  obtain ⟨n, rfl, rfl, hw⟩ := DataW.trod_int h hx
  refine ⟨n, rfl, ?_⟩
  simp [Lit.wf, IntKind.min, IntKind.max, IntKind.signed, IntKind.bits] at hw
  omega
theorem Tr.bool {P : Program} {t : TypeId} (h : P.underlying t = some .bool) : Tr P t EB (fun _ => True) := fun hx => by
  obtain ⟨n, rfl, rfl⟩ := DataW.trod_bool h hx
  exact ⟨n, rfl, trivial⟩

/-- A slice in its one cell. -/
def ESl {α : Type} (E : Enc α) : Enc (List α) := ⟨1, fun w xs cs => ∃ v, cs = [v] ∧ Rd E w v xs, fun ⟨v, h, _⟩ => by simp [h], fun ⟨v, h, k⟩ e => ⟨v, h, k.up e⟩⟩

theorem list_of {α : Type} {n : Nat} {p : Nat → α → Prop} (h : ∀ i, i < n → ∃ a, p i a) : ∃ xs : List α, xs.length = n ∧ ∀ i x, xs[i]? = some x → p i x := by
  induction n with
  | zero => exact ⟨[], rfl, fun i x h => by simp at h⟩
  | succ n ih =>
    obtain ⟨xs, h1, h2⟩ := ih (fun i hi => h i (by omega))
    obtain ⟨a, ha⟩ := h n (by omega)
    refine ⟨xs ++ [a], by simp [h1], fun i x hx => ?_⟩
    by_cases hi : i < n
    · rw [List.getElem?_append_left (by omega)] at hx
      exact h2 i x hx
    · rw [List.getElem?_append_right (by omega), h1] at hx
      have : i - n = 0 := by
        rcases Nat.eq_zero_or_pos (i - n) with e | e
        · exact e
        · rw [List.getElem?_eq_none (by simp; omega)] at hx; cases hx
      rw [this] at hx
      simp at hx; subst hx
      have : i = n := by omega
      subst this; exact ha

theorem cells?_spec {w : World} {base n : Nat} {a : Addr} {cs : List Value} (h : w.cells? base a n = some cs) : base ≤ a.block ∧ cs.length = n ∧ ∀ j u, cs[j]? = some u → w.cell? (a.add j) = some u := by
  unfold World.cells? at h
  split at h
  · rename_i hb
    refine ⟨hb, by simpa using mapM_some_length h, fun j u hj => ?_⟩
    have hl : cs.length = n := by simpa using mapM_some_length h
    have hjn : j < n := by
      rcases Nat.lt_or_ge j cs.length with h' | h'
      · omega
      · rw [List.getElem?_eq_none h'] at hj; cases hj
    have := mapM_some_get h j j (by simp [hjn])
    rw [this, hj]
  · cases h

theorem spot_of_cell {w : World} {a : Addr} {u : Value} (h : w.cell? a = some u) : a.spot = none := by
  unfold World.cell? at h
  split at h
  · cases hs : a.spot with
    | none => rfl
    | some _ => simp [hs] at h
  · cases h

theorem Tr.slice {α : Type} {P : Program} {t e : TypeId} {E : Enc α} {G : α → Prop} (h : Tr P e E G) (ht : P.underlying t = some (.slice e)) (hs : P.cellsOf e = E.size) (hp : 0 < E.size) : Tr P t (ESl E) (fun xs => ∀ x ∈ xs, G x) := fun hx => by
  rename_i H enc w base spare held fuel cs x
  rcases DataW.trod_slice ht hx with ⟨rfl, rfl⟩ | ⟨a, len, cap, elems, rest, n, _, rfl, rfl, hb, hl, hm, hlen, hel, hsp, hns⟩
  · exact ⟨[], ⟨_, rfl, Rd.nil E w⟩, by simp⟩
  · have hpt : ∀ i, i < len → ∃ z, G z ∧ a.spot = none ∧ ∃ cs, E.rep w z cs ∧ Cells w (padd a (i * E.size)) cs := fun i hi => by
      have h1 := hel i hi
      rw [List.getElem?_eq_getElem (by omega)] at h1
      simp only [Option.bind_eq_some_iff] at h1
      obtain ⟨cs', h2, h3⟩ := h1
      obtain ⟨z, h4, h5⟩ := h h3
      obtain ⟨h6, h7, h8⟩ := cells?_spec h2
      rw [hs] at h8 h7
      have hsz := E.len h4
      have hspot : a.spot = none := by
        have h9 := h8 0 cs'[0] (by simp)
        have h10 := spot_of_cell h9
        by_cases h0 : i * E.size = 0
        · simpa [Addr.add, h0] using h10
        · have hi0 : i ≠ 0 := by rintro rfl; simp at h0
          have h1' := hel 0 (by omega)
          rw [List.getElem?_eq_getElem (by omega)] at h1'
          simp only [Option.bind_eq_some_iff] at h1'
          obtain ⟨cs0, k2, k3⟩ := h1'
          obtain ⟨z0, k4, _⟩ := h k3
          obtain ⟨_, k7, k8⟩ := cells?_spec k2
          rw [hs] at k8 k7
          have k9 := k8 0 (cs0[0]'(by omega)) (by simp)
          simpa [Addr.add] using spot_of_cell k9
      refine ⟨z, h5, hspot, cs', h4, rfl, fun j u hj => ?_⟩
      have := h8 j u hj
      rw [add_padd hspot] at this
      rw [add_padd (p := padd a (i * E.size)) rfl] at this
      exact this
    obtain ⟨xs, k1, k2⟩ := list_of hpt
    refine ⟨xs, ⟨_, rfl, by simp only [maxLen] at hm; omega, .inr ⟨a, cap, by rw [k1], by omega, fun i z hz => (k2 i z hz).2⟩⟩, fun z hz => ?_⟩
    obtain ⟨i, hi, rfl⟩ := List.mem_iff_getElem.1 hz
    exact (k2 i xs[i] (by simp [hi])).1
end Go.WX
