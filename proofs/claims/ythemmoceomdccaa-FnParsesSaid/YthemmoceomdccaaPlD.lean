/- Plain laws on charts of parses; no program. No condition. -/
import Derived.Test.YthemmoceomdccaaPlX
import Derived.Test.YthemmoceomdccaaPlG
namespace Go.WX
open Go

abbrev rl (rs : List R4) (k : Nat) : R4 := rs.getD k (0, 0, 0, 0)
/-- A tree of a name over a part of a word, and its cost. -/
inductive DC (rs : List R4) (wd : List Int) : Nat → Nat → Int → Int → Prop
  | leaf (i k : Nat) : k < rs.length → i < wd.length → (rl rs k).2.2.1 < 0 → wd.getD i 0 = (rl rs k).2.1 → DC rs wd i (i + 1) (rl rs k).1 (rl rs k).2.2.2
  | node (i m j k : Nat) (c1 c2 : Int) : k < rs.length → 0 ≤ (rl rs k).2.2.1 → DC rs wd i m (rl rs k).2.1 c1 → DC rs wd m j (rl rs k).2.2.1 c2 → DC rs wd i j (rl rs k).1 (c1 + c2 + (rl rs k).2.2.2)
/-- What rule k with place m gives. -/
def Cand (rs : List R4) (wd : List Int) (i j k m : Nat) (c : Int) : Prop :=
  ((rl rs k).2.2.1 < 0 ∧ j = i + 1 ∧ m = i ∧ i < wd.length ∧ wd.getD i 0 = (rl rs k).2.1 ∧ c = (rl rs k).2.2.2) ∨
  (0 ≤ (rl rs k).2.2.1 ∧ ∃ c1 c2, DC rs wd i m (rl rs k).2.1 c1 ∧ DC rs wd m j (rl rs k).2.2.1 c2 ∧ c = c1 + c2 + (rl rs k).2.2.2)
variable {rs : List R4} {wd : List Int}
theorem DC.lt {i j : Nat} {a c : Int} (h : DC rs wd i j a c) : i < j ∧ j ≤ wd.length := by
  induction h with
  | leaf i k h1 h2 h3 h4 => omega
  | node i m j k c1 c2 h1 h2 h3 h4 i1 i2 => omega
theorem DC.cand {i j : Nat} {a c : Int} (h : DC rs wd i j a c) : ∃ k m, k < rs.length ∧ (rl rs k).1 = a ∧ Cand rs wd i j k m c := by
  cases h with
  | leaf _ k h1 h2 h3 h4 => exact ⟨k, i, h1, rfl, .inl ⟨h3, rfl, rfl, h2, h4, rfl⟩⟩
  | node _ m _ k c1 c2 h1 h2 h3 h4 => exact ⟨k, m, h1, rfl, .inr ⟨h2, c1, c2, h3, h4, rfl⟩⟩
theorem Cand.dc {i j k m : Nat} {c : Int} (hk : k < rs.length) (h : Cand rs wd i j k m c) : DC rs wd i j (rl rs k).1 c := by
  rcases h with ⟨h1, rfl, rfl, h4, h5, rfl⟩ | ⟨h1, c1, c2, h2, h3, rfl⟩
  · exact .leaf _ k hk h4 h1 h5
  · exact .node i m j k c1 c2 hk h1 h2 h3
theorem Cand.pl {i j k m : Nat} {c : Int} (h : Cand rs wd i j k m c) : i ≤ m ∧ m < j ∧ ((rl rs k).2.2.1 < 0 → m = i) ∧ (0 ≤ (rl rs k).2.2.1 → i < m) := by
  rcases h with ⟨h1, rfl, rfl, h4, h5, rfl⟩ | ⟨h1, c1, c2, h2, h3, rfl⟩
  · exact ⟨Nat.le_refl _, Nat.lt_succ_self _, fun _ => rfl, fun h => by omega⟩
  · have := h2.lt; have := h3.lt; exact ⟨by omega, by omega, fun h => by omega, fun _ => by omega⟩
/-- Costs of trees are small. -/
theorem DC.rng {nm l : Int} (g : gramV nm l rs) {i j : Nat} {a c : Int} (h : DC rs wd i j a c) : (0 ≤ a ∧ a < nm) ∧ 0 ≤ c ∧ c + 1000 ≤ 2000 * ((j : Int) - i) := by
  induction h with
  | leaf i k h1 h2 h3 h4 =>
    have hk := g.2.2.2 k h1; have k1 := hk.1; have k3 := hk.2.2.1
    refine ⟨⟨k1.1, by have := k1.2; show (rs.getD k (0, 0, 0, 0)).1 < nm; omega⟩, k3.1, ?_⟩
    show (rs.getD k (0, 0, 0, 0)).2.2.2 + 1000 ≤ _; omega
  | node i m j k c1 c2 h1 h2 h3 h4 i1 i2 =>
    have hk := g.2.2.2 k h1; have k1 := hk.1; have k3 := hk.2.2.1
    have e : (rl rs k).2.2.2 = (rs.getD k (0, 0, 0, 0)).2.2.2 := rfl
    refine ⟨⟨k1.1, by have := k1.2; show (rs.getD k (0, 0, 0, 0)).1 < nm; omega⟩, by omega, by omega⟩

section
variable {α : Type} {sn : Nat → Nat → Int → α → Prop} {ge : α → Int → Prop} {d v0 : α} {nm : Int} {W Nm N : Nat} {xs : List α} {L I : Nat} {P P' : Nat → Nat → Prop}
def cl (d : α) (W Nm : Nat) (xs : List α) (i j : Nat) (a : Int) : α := xs.getD ((i * W + j) * Nm + a.toNat) d
structure OkC (sn : Nat → Nat → Int → α → Prop) (ge : α → Int → Prop) (rs : List R4) (wd : List Int) (v : α) (i j : Nat) (a : Int) : Prop where
  s : sn i j a v
  g : ∀ c, DC rs wd i j a c → ge v c
/-- A table whose parts before (L, I) are done; the rest is fresh. -/
structure TC (sn : Nat → Nat → Int → α → Prop) (ge : α → Int → Prop) (d v0 : α) (rs : List R4) (wd : List Int) (nm : Int) (W Nm N : Nat) (xs : List α) (L I : Nat) : Prop where
  n : xs.length = N
  ok : ∀ i j, i < j → j ≤ wd.length → (j - i < L ∨ (j - i = L ∧ i < I)) → ∀ a, 0 ≤ a → a < nm → OkC sn ge rs wd (cl d W Nm xs i j a) i j a
  z : ∀ i j, i < j → j ≤ wd.length → ¬ (j - i < L ∨ (j - i = L ∧ i < I)) → ∀ a, 0 ≤ a → a < nm → cl d W Nm xs i j a = v0
/-- The same while the part I to I + L is under way; P says which rules and places are done. -/
structure TP (sn : Nat → Nat → Int → α → Prop) (ge : α → Int → Prop) (d v0 : α) (rs : List R4) (wd : List Int) (nm : Int) (W Nm N : Nat) (xs : List α) (L I : Nat) (P : Nat → Nat → Prop) : Prop where
  n : xs.length = N
  ok : ∀ i j, i < j → j ≤ wd.length → (j - i < L ∨ (j - i = L ∧ i < I)) → ∀ a, 0 ≤ a → a < nm → OkC sn ge rs wd (cl d W Nm xs i j a) i j a
  z : ∀ i j, i < j → j ≤ wd.length → ¬ (j - i < L ∨ (j - i = L ∧ i < I)) → ¬ (i = I ∧ j = I + L) → ∀ a, 0 ≤ a → a < nm → cl d W Nm xs i j a = v0
  so : ∀ a, 0 ≤ a → a < nm → sn I (I + L) a (cl d W Nm xs I (I + L) a)
  co : ∀ k m c, k < rs.length → P k m → Cand rs wd I (I + L) k m c → ge (cl d W Nm xs I (I + L) (rl rs k).1) c
theorem TC.start (h : TC sn ge d v0 rs wd nm W Nm N xs L I) (hL : 1 ≤ L) (hI : I + L ≤ wd.length) (h0 : ∀ a, sn I (I + L) a v0) : TP sn ge d v0 rs wd nm W Nm N xs L I (fun _ _ => False) :=
  ⟨h.n, h.ok, fun i j h1 h2 h3 _ => h.z i j h1 h2 h3, fun a h1 h2 => by rw [h.z I (I + L) (by omega) hI (by omega) a h1 h2]; exact h0 a, fun _ _ _ _ h _ => h.elim⟩
theorem TP.mono (h : TP sn ge d v0 rs wd nm W Nm N xs L I P) (hm : ∀ k m c, k < rs.length → Cand rs wd I (I + L) k m c → P' k m → P k m) : TP sn ge d v0 rs wd nm W Nm N xs L I P' :=
  ⟨h.n, h.ok, h.z, h.so, fun k m c h1 h2 h3 => h.co k m c h1 (hm k m c h1 h3 h2) h3⟩
theorem TP.keep (h : TP sn ge d v0 rs wd nm W Nm N xs L I P) {K M : Nat} (hg : ∀ c, Cand rs wd I (I + L) K M c → ge (cl d W Nm xs I (I + L) (rl rs K).1) c) : TP sn ge d v0 rs wd nm W Nm N xs L I (fun k m => P k m ∨ (k = K ∧ m = M)) :=
  ⟨h.n, h.ok, h.z, h.so, fun k m c h1 h2 h3 => by
    rcases h2 with h2 | ⟨rfl, rfl⟩
    · exact h.co k m c h1 h2 h3
    · exact hg c h3⟩
theorem ix3 {W Nm i j a i2 j2 a2 : Nat} (hj : j < W) (hj2 : j2 < W) (ha : a < Nm) (ha2 : a2 < Nm) (h : (i * W + j) * Nm + a = (i2 * W + j2) * Nm + a2) : i = i2 ∧ j = j2 ∧ a = a2 := by
  obtain ⟨h1, rfl⟩ := ixU ha ha2 h
  obtain ⟨rfl, rfl⟩ := ixU hj hj2 h1
  exact ⟨rfl, rfl, rfl⟩
theorem gsetE {l : List α} {i : Nat} {v d : α} (h : i < l.length) : (l.set i v).getD i d = v := by simp [h]
theorem gsetN {l : List α} {i j : Nat} {v d : α} (h : i ≠ j) : (l.set i v).getD j d = l.getD j d := by simp [List.getD_eq_getElem?_getD, List.getElem?_set_ne h]
theorem cl_ne {i j : Nat} {a b : Int} {v : α} (hW : wd.length < W) (hj : j ≤ wd.length) (hI : I + L ≤ wd.length) (ha : 0 ≤ a ∧ a < nm) (hb : 0 ≤ b ∧ b < nm) (hN : nm ≤ Nm) (h : ¬ (i = I ∧ j = I + L ∧ a = b)) :
    cl d W Nm (xs.set ((I * W + (I + L)) * Nm + b.toNat) v) i j a = cl d W Nm xs i j a := by
  unfold cl
  refine gsetN (fun he => ?_)
  have := ix3 (by omega) (by omega) (by omega) (by omega) he
  omega
theorem cl_eq {b : Int} {v : α} (h : (I * W + (I + L)) * Nm + b.toNat < xs.length) : cl d W Nm (xs.set ((I * W + (I + L)) * Nm + b.toNat) v) I (I + L) b = v := gsetE h
theorem TP.set (h : TP sn ge d v0 rs wd nm W Nm N xs L I P) {K M : Nat} {u : α} (hW : wd.length < W) (hL : 1 ≤ L) (hI : I + L ≤ wd.length) (hN : nm ≤ Nm) (hb : 0 ≤ (rl rs K).1 ∧ (rl rs K).1 < nm) (hx : (I * W + (I + L)) * Nm + (rl rs K).1.toNat < N)
    (hs : sn I (I + L) (rl rs K).1 u) (hm : ∀ c, ge (cl d W Nm xs I (I + L) (rl rs K).1) c → ge u c) (hg : ∀ c, Cand rs wd I (I + L) K M c → ge u c) (hr : ∀ k, k < rs.length → 0 ≤ (rl rs k).1 ∧ (rl rs k).1 < nm) :
    TP sn ge d v0 rs wd nm W Nm N (xs.set ((I * W + (I + L)) * Nm + (rl rs K).1.toNat) u) L I (fun k m => P k m ∨ (k = K ∧ m = M)) := by
  have hn := h.n
  refine ⟨by rw [List.length_set]; exact hn, fun i j h1 h2 h3 a h4 h5 => ?_, fun i j h1 h2 h3 h6 a h4 h5 => ?_, fun a h4 h5 => ?_, fun k m c h1 h2 h3 => ?_⟩
  · rw [cl_ne hW h2 hI ⟨h4, h5⟩ hb hN (by omega)]; exact h.ok i j h1 h2 h3 a h4 h5
  · rw [cl_ne hW h2 hI ⟨h4, h5⟩ hb hN (by omega)]; exact h.z i j h1 h2 h3 h6 a h4 h5
  · by_cases e : a = (rl rs K).1
    · subst e; rw [cl_eq (by omega)]; exact hs
    · rw [cl_ne hW hI hI ⟨h4, h5⟩ hb hN (by omega)]; exact h.so a h4 h5
  · by_cases e : (rl rs k).1 = (rl rs K).1
    · rw [e, cl_eq (by omega)]
      rcases h2 with h2 | ⟨rfl, rfl⟩
      · have := h.co k m c h1 h2 h3
        rw [e] at this; exact hm c this
      · exact hg c h3
    · rw [cl_ne hW hI hI (hr k h1) hb hN (by omega)]
      rcases h2 with h2 | ⟨rfl, rfl⟩
      · exact h.co k m c h1 h2 h3
      · exact absurd rfl e
theorem TP.fin (h : TP sn ge d v0 rs wd nm W Nm N xs L I P) (ha : ∀ k m, k < rs.length → I ≤ m → m < I + L → P k m) : TC sn ge d v0 rs wd nm W Nm N xs L (I + 1) := by
  refine ⟨h.n, fun i j h1 h2 h3 a h4 h5 => ?_, fun i j h1 h2 h3 a h4 h5 => h.z i j h1 h2 (by omega) (by omega) a h4 h5⟩
  by_cases e : i = I ∧ j = I + L
  · obtain ⟨rfl, rfl⟩ := e
    refine ⟨h.so a h4 h5, fun c hc => ?_⟩
    obtain ⟨k, m, hk, rfl, hcd⟩ := hc.cand
    have := hcd.pl
    exact h.co k m c hk (ha k m hk this.1 this.2.1) hcd
  · exact h.ok i j h1 h2 (by omega) a h4 h5
theorem TC.next (h : TC sn ge d v0 rs wd nm W Nm N xs L I) (hI : wd.length < I + L) : TC sn ge d v0 rs wd nm W Nm N xs (L + 1) 0 :=
  ⟨h.n, fun i j h1 h2 h3 => h.ok i j h1 h2 (by omega), fun i j h1 h2 h3 => h.z i j h1 h2 (by omega)⟩
theorem TC.zero (hr : ∀ i j : Nat, ∀ a : Int, i < j → j ≤ wd.length → 0 ≤ a → a < nm → (i * W + j) * Nm + a.toNat < N) : TC sn ge d v0 rs wd nm W Nm N (List.replicate N v0) 1 0 :=
  ⟨by simp, fun i j h1 _ h => by omega, fun i j h1 h2 _ a h3 h4 => by
    have := hr i j a h1 h2 h3 h4
    simp [cl, List.getD_eq_getElem?_getD, this]⟩
theorem TP.left (h : TP sn ge d v0 rs wd nm W Nm N xs L I P) {m : Nat} {a : Int} (hI : I + L ≤ wd.length) (h1 : I < m) (h2 : m < I + L) (ha : 0 ≤ a ∧ a < nm) : OkC sn ge rs wd (cl d W Nm xs I m a) I m a := h.ok I m h1 (by omega) (by omega) a ha.1 ha.2
theorem TP.right (h : TP sn ge d v0 rs wd nm W Nm N xs L I P) {m : Nat} {a : Int} (hI : I + L ≤ wd.length) (h1 : I < m) (h2 : m < I + L) (ha : 0 ≤ a ∧ a < nm) : OkC sn ge rs wd (cl d W Nm xs m (I + L) a) m (I + L) a := h.ok m (I + L) h2 (by omega) (by omega) a ha.1 ha.2
theorem TC.at (h : TC sn ge d v0 rs wd nm W Nm N xs (wd.length + 1) I) {i j : Nat} {a : Int} (h1 : i < j) (h2 : j ≤ wd.length) (ha : 0 ≤ a ∧ a < nm) : OkC sn ge rs wd (cl d W Nm xs i j a) i j a := h.ok i j h1 h2 (by omega) a ha.1 ha.2
end
/-! ### Tables of truths -/
def snB (rs : List R4) (wd : List Int) (i j : Nat) (a : Int) (b : Bool) : Prop := b = true → ∃ c, DC rs wd i j a c
def geB (b : Bool) (_ : Int) : Prop := b = true
abbrev TPB (rs : List R4) (wd : List Int) (nm : Int) (W Nm N : Nat) (xs : List Bool) (L I : Nat) (P : Nat → Nat → Prop) : Prop := TP (snB rs wd) geB false false rs wd nm W Nm N xs L I P
abbrev TCB (rs : List R4) (wd : List Int) (nm : Int) (W Nm N : Nat) (xs : List Bool) (L I : Nat) : Prop := TC (snB rs wd) geB false false rs wd nm W Nm N xs L I
section
variable {nm l : Int} {W Nm N : Nat} {xs : List Bool} {L I K M : Nat} {P : Nat → Nat → Prop} {u : Bool}
theorem gram_left (g : gramV nm l rs) (k : Nat) (hk : k < rs.length) : 0 ≤ (rl rs k).1 ∧ (rl rs k).1 < nm := by
  have := (g.2.2.2 k hk).1; exact ⟨this.1, by have := this.2; show (rs.getD k (0, 0, 0, 0)).1 < nm; omega⟩
theorem gram_node (g : gramV nm l rs) {k : Nat} (hk : k < rs.length) (h : 0 ≤ (rl rs k).2.2.1) : (0 ≤ (rl rs k).2.1 ∧ (rl rs k).2.1 < nm) ∧ (0 ≤ (rl rs k).2.2.1 ∧ (rl rs k).2.2.1 < nm) := by
  have h1 := g.2.2.2 k hk
  have h3 := h1.2.2.2.2 (by show (rl rs k).2.2.1 ≠ -1; omega)
  have h4 := h1.2.1
  refine ⟨⟨h3.1, ?_⟩, h, ?_⟩
  · have := h3.2; show (rs.getD k (0, 0, 0, 0)).2.1 < nm; omega
  · have := h4.2; show (rs.getD k (0, 0, 0, 0)).2.2.1 < nm; omega
theorem TP.leafB (h : TPB rs wd nm W Nm N xs L I P) (g : gramV nm l rs) (hW : wd.length < W) (hL : 1 ≤ L) (hI : I + L ≤ wd.length) (hN : nm ≤ Nm) (hK : K < rs.length) (hx : (I * W + (I + L)) * Nm + (rl rs K).1.toNat < N)
    (h2 : (rl rs K).2.2.1 < 0) (hu : u = true ↔ (cl false W Nm xs I (I + L) (rl rs K).1 = true ∨ (L = 1 ∧ wd.getD I 0 = (rl rs K).2.1))) :
    TPB rs wd nm W Nm N (xs.set ((I * W + (I + L)) * Nm + (rl rs K).1.toNat) u) L I (fun k m => P k m ∨ (k = K ∧ m = I)) := by
  have hl := gram_left g K hK
  refine TP.set h hW hL hI hN hl hx (fun hq => ?_) (fun c hc => hu.2 (.inl hc)) (fun c hc => hu.2 ?_) (gram_left g)
  · rcases hu.1 hq with h3 | ⟨rfl, h4⟩
    · exact h.so _ hl.1 hl.2 h3
    · exact ⟨_, .leaf I K hK (by omega) h2 h4⟩
  · rcases hc with ⟨_, h5, _, _, h6, _⟩ | ⟨h5, _⟩
    · exact .inr ⟨by omega, h6⟩
    · omega
theorem TP.nodeB (h : TPB rs wd nm W Nm N xs L I P) (g : gramV nm l rs) (hW : wd.length < W) (hL : 1 ≤ L) (hI : I + L ≤ wd.length) (hN : nm ≤ Nm) (hK : K < rs.length) (hx : (I * W + (I + L)) * Nm + (rl rs K).1.toNat < N)
    (h2 : 0 ≤ (rl rs K).2.2.1) (h3 : I < M) (h4 : M < I + L) (hu : u = true ↔ (cl false W Nm xs I (I + L) (rl rs K).1 = true ∨ (cl false W Nm xs I M (rl rs K).2.1 = true ∧ cl false W Nm xs M (I + L) (rl rs K).2.2.1 = true))) :
    TPB rs wd nm W Nm N (xs.set ((I * W + (I + L)) * Nm + (rl rs K).1.toNat) u) L I (fun k m => P k m ∨ (k = K ∧ m = M)) := by
  have hl := gram_left g K hK; have hn := gram_node g hK h2
  have o1 := h.left (m := M) hI h3 h4 hn.1; have o2 := h.right (m := M) hI h3 h4 hn.2
  refine TP.set h hW hL hI hN hl hx (fun hq => ?_) (fun c hc => hu.2 (.inl hc)) (fun c hc => hu.2 ?_) (gram_left g)
  · rcases hu.1 hq with h5 | ⟨h5, h6⟩
    · exact h.so _ hl.1 hl.2 h5
    · obtain ⟨c1, d1⟩ := o1.s h5; obtain ⟨c2, d2⟩ := o2.s h6
      exact ⟨_, .node I M (I + L) K c1 c2 hK h2 d1 d2⟩
  · rcases hc with ⟨h5, _⟩ | ⟨_, c1, c2, d1, d2, _⟩
    · omega
    · exact .inr ⟨o1.g c1 d1, o2.g c2 d2⟩
end
/-! ### Tables of least costs -/
def snF (F : Int) (rs : List R4) (wd : List Int) (i j : Nat) (a v : Int) : Prop := v = F ∨ DC rs wd i j a v
def geF (v c : Int) : Prop := v ≤ c
abbrev TPF (F : Int) (rs : List R4) (wd : List Int) (nm : Int) (W Nm N : Nat) (xs : List Int) (L I : Nat) (P : Nat → Nat → Prop) : Prop := TP (snF F rs wd) geF 0 F rs wd nm W Nm N xs L I P
abbrev TCF (F : Int) (rs : List R4) (wd : List Int) (nm : Int) (W Nm N : Nat) (xs : List Int) (L I : Nat) : Prop := TC (snF F rs wd) geF 0 F rs wd nm W Nm N xs L I
section
variable {nm l F : Int} {W Nm N : Nat} {xs : List Int} {L I K M : Nat} {P : Nat → Nat → Prop}
theorem TP.leafF (h : TPF F rs wd nm W Nm N xs L I P) (g : gramV nm l rs) (hW : wd.length < W) (hL : L = 1) (hI : I + L ≤ wd.length) (hN : nm ≤ Nm) (hK : K < rs.length) (hx : (I * W + (I + L)) * Nm + (rl rs K).1.toNat < N)
    (h2 : (rl rs K).2.2.1 < 0) (hw : wd.getD I 0 = (rl rs K).2.1) :
    TPF F rs wd nm W Nm N (xs.set ((I * W + (I + L)) * Nm + (rl rs K).1.toNat) (min (cl 0 W Nm xs I (I + L) (rl rs K).1) (rl rs K).2.2.2)) L I (fun k m => P k m ∨ (k = K ∧ m = I)) := by
  have hl := gram_left g K hK
  refine TP.set h hW (by omega) hI hN hl hx ?_ (fun c hc => Int.le_trans (Int.min_le_left _ _) hc) (fun c hc => ?_) (gram_left g)
  · rcases Int.le_total (cl 0 W Nm xs I (I + L) (rl rs K).1) (rl rs K).2.2.2 with e | e
    · rw [Int.min_eq_left e]; exact h.so _ hl.1 hl.2
    · rw [Int.min_eq_right e]; subst hL; exact .inr (.leaf I K hK (by omega) h2 hw)
  · rcases hc with ⟨_, _, _, _, _, rfl⟩ | ⟨h5, _⟩
    · exact Int.min_le_right _ _
    · omega
theorem TP.noLeaf (h : TPF F rs wd nm W Nm N xs L I P) (h2 : (rl rs K).2.2.1 < 0) (hw : ¬ (L = 1 ∧ wd.getD I 0 = (rl rs K).2.1)) : TPF F rs wd nm W Nm N xs L I (fun k m => P k m ∨ (k = K ∧ m = I)) :=
  TP.keep h (fun c hc => by
    rcases hc with ⟨_, h5, _, _, h6, _⟩ | ⟨h5, _⟩
    · exact absurd ⟨by omega, h6⟩ hw
    · omega)
theorem TP.nodeF (h : TPF F rs wd nm W Nm N xs L I P) (g : gramV nm l rs) (hF : 1000000 ≤ F) (hW : wd.length < W) (hL : 1 ≤ L) (hI : I + L ≤ wd.length) (hN : nm ≤ Nm) (hK : K < rs.length) (hx : (I * W + (I + L)) * Nm + (rl rs K).1.toNat < N)
    (h2 : 0 ≤ (rl rs K).2.2.1) (h3 : I < M) (h4 : M < I + L) (hlt : cl 0 W Nm xs I M (rl rs K).2.1 + cl 0 W Nm xs M (I + L) (rl rs K).2.2.1 < F) :
    TPF F rs wd nm W Nm N (xs.set ((I * W + (I + L)) * Nm + (rl rs K).1.toNat) (min (cl 0 W Nm xs I (I + L) (rl rs K).1) (cl 0 W Nm xs I M (rl rs K).2.1 + cl 0 W Nm xs M (I + L) (rl rs K).2.2.1 + (rl rs K).2.2.2))) L I (fun k m => P k m ∨ (k = K ∧ m = M)) := by
  have hl := gram_left g K hK; have hn := gram_node g hK h2
  have o1 := h.left (m := M) hI h3 h4 hn.1; have o2 := h.right (m := M) hI h3 h4 hn.2
  have p1 : 0 ≤ cl 0 W Nm xs I M (rl rs K).2.1 := by
    rcases o1.s with e | e
    · rw [e]; omega
    · exact (e.rng g).2.1
  have p2 : 0 ≤ cl 0 W Nm xs M (I + L) (rl rs K).2.2.1 := by
    rcases o2.s with e | e
    · rw [e]; omega
    · exact (e.rng g).2.1
  refine TP.set h hW hL hI hN hl hx ?_ (fun c hc => Int.le_trans (Int.min_le_left _ _) hc) (fun c hc => ?_) (gram_left g)
  · rcases Int.le_total (cl 0 W Nm xs I (I + L) (rl rs K).1) (cl 0 W Nm xs I M (rl rs K).2.1 + cl 0 W Nm xs M (I + L) (rl rs K).2.2.1 + (rl rs K).2.2.2) with e | e
    · rw [Int.min_eq_left e]; exact h.so _ hl.1 hl.2
    · rw [Int.min_eq_right e]
      rcases o1.s with e1 | e1
      · omega
      · rcases o2.s with e2 | e2
        · omega
        · exact .inr (.node I M (I + L) K _ _ hK h2 e1 e2)
  · rcases hc with ⟨h5, _⟩ | ⟨_, c1, c2, d1, d2, rfl⟩
    · omega
    · have a1 : _ ≤ _ := o1.g c1 d1; have a2 : _ ≤ _ := o2.g c2 d2
      exact Int.le_trans (Int.min_le_right _ _) (by omega)
theorem TP.noNode (h : TPF F rs wd nm W Nm N xs L I P) (g : gramV nm l rs) (hF : 1000000 ≤ F) (h12 : wd.length ≤ 12) (hI : I + L ≤ wd.length) (hK : K < rs.length)
    (h2 : 0 ≤ (rl rs K).2.2.1) (h3 : I < M) (h4 : M < I + L) (hlt : F ≤ cl 0 W Nm xs I M (rl rs K).2.1 + cl 0 W Nm xs M (I + L) (rl rs K).2.2.1) : TPF F rs wd nm W Nm N xs L I (fun k m => P k m ∨ (k = K ∧ m = M)) :=
  TP.keep h (fun c hc => by
    have hn := gram_node g hK h2
    have o1 := h.left (m := M) hI h3 h4 hn.1; have o2 := h.right (m := M) hI h3 h4 hn.2
    rcases hc with ⟨h5, _⟩ | ⟨_, c1, c2, d1, d2, rfl⟩
    · omega
    · have a1 : _ ≤ _ := o1.g c1 d1; have a2 : _ ≤ _ := o2.g c2 d2
      have r1 := d1.rng g; have r2 := d2.rng g; have := d1.lt; have := d2.lt
      omega)
theorem OkC.rng {v : Int} {i j : Nat} {a : Int} (h : OkC (snF F rs wd) geF rs wd v i j a) (g : gramV nm l rs) (hF : 1000000 ≤ F) (h12 : wd.length ≤ 12) : 0 ≤ v ∧ v ≤ F ∧ (v < F ↔ ∃ c, DC rs wd i j a c) := by
  rcases h.s with e | e
  · refine ⟨by omega, by omega, ⟨fun h1 => by omega, fun ⟨c, hc⟩ => ?_⟩⟩
    have a1 : _ ≤ _ := h.g c hc; have r := hc.rng g; have := hc.lt; omega
  · have r := e.rng g; have := e.lt
    exact ⟨r.2.1, by omega, fun _ => ⟨_, e⟩, fun _ => by omega⟩
end
/-! ### Places in a flat table -/
theorem ixC {x y n : Nat} {s r : Int} (hx : x ≤ n) (hy : y ≤ n) (hn : n ≤ 12) (hs : 1 ≤ s ∧ s ≤ 8) (hr : 0 ≤ r ∧ r < s) :
    (0 ≤ (x : Int) * (n + 1) ∧ (x : Int) * (n + 1) ≤ 156) ∧ (0 ≤ ((x : Int) * (n + 1) + y) * s ∧ ((x : Int) * (n + 1) + y) * s ≤ 1352) ∧
    (0 ≤ ((x : Int) * (n + 1) + y) * s + r ∧ ((x : Int) * (n + 1) + y) * s + r < (((n : Int) + 1) * (n + 1) * s).toNat) ∧ (((x : Int) * (n + 1) + y) * s + r).toNat = (x * (n + 1) + y) * s.toNat + r.toNat ∧ (x * (n + 1) + y) * s.toNat + r.toNat < (((n : Int) + 1) * (n + 1) * s).toNat := by
  obtain ⟨t, rfl⟩ := Int.eq_ofNat_of_zero_le (show 0 ≤ s by omega)
  obtain ⟨q, rfl⟩ := Int.eq_ofNat_of_zero_le hr.1
  have h1 := sq13 hx hn
  have h2 := (ixZ (x := x) (y := y) (n := n) hx hy).2.1
  have h4 : (n + 1) * (n + 1) ≤ 169 := Nat.mul_le_mul (show n + 1 ≤ 13 by omega) (show n + 1 ≤ 13 by omega)
  have e1 : ((x : Int) * (n + 1) + y) * (t : Int) = (((x * (n + 1) + y) * t : Nat) : Int) := by push_cast; rfl
  have e2 : ((n : Int) + 1) * (n + 1) * (t : Int) = (((n + 1) * (n + 1) * t : Nat) : Int) := by push_cast; rfl
  have h3 : (x * (n + 1) + y + 1) * t ≤ (n + 1) * (n + 1) * t := Nat.mul_le_mul_right _ (by omega)
  have h5 : (n + 1) * (n + 1) * t ≤ 169 * 8 := Nat.mul_le_mul h4 (by omega)
  rw [Nat.add_mul] at h3
  rw [e1, e2]
  simp only [Int.toNat_natCast]
  refine ⟨h1, ⟨by omega, by omega⟩, ⟨by omega, by omega⟩, by omega, by omega⟩
theorem ixC3 {x y y2 n : Nat} {s r : Int} (hx : x ≤ n) (hy : y + y2 ≤ n) (hn : n ≤ 12) (hs : 1 ≤ s ∧ s ≤ 8) (hr : 0 ≤ r ∧ r < s) :
    (0 ≤ (x : Int) * (n + 1) ∧ (x : Int) * (n + 1) ≤ 156) ∧ (0 ≤ ((x : Int) * (n + 1) + y + y2) * s ∧ ((x : Int) * (n + 1) + y + y2) * s ≤ 1352) ∧
    (0 ≤ ((x : Int) * (n + 1) + y + y2) * s + r ∧ ((x : Int) * (n + 1) + y + y2) * s + r < (((n : Int) + 1) * (n + 1) * s).toNat) ∧ (((x : Int) * (n + 1) + y + y2) * s + r).toNat = (x * (n + 1) + (y + y2)) * s.toNat + r.toNat ∧ (x * (n + 1) + (y + y2)) * s.toNat + r.toNat < (((n : Int) + 1) * (n + 1) * s).toNat := by
  have := ixC (x := x) (y := y + y2) hx hy hn hs hr
  have e : (x : Int) * (n + 1) + ((y + y2 : Nat) : Int) = (x : Int) * (n + 1) + y + y2 := by push_cast; omega
  rwa [e] at this
theorem szC {n : Nat} {s : Int} (hn : n ≤ 12) (hs : 1 ≤ s ∧ s ≤ 8) : (0 ≤ ((n : Int) + 1) * (n + 1) ∧ ((n : Int) + 1) * (n + 1) ≤ 169) ∧ 0 ≤ ((n : Int) + 1) * (n + 1) * s ∧ ((n : Int) + 1) * (n + 1) * s ≤ 1352 := by
  obtain ⟨t, rfl⟩ := Int.eq_ofNat_of_zero_le (show 0 ≤ s by omega)
  have h4 := sqN (n := n) hn
  have h5 : (n + 1) * (n + 1) * t ≤ 169 * 8 := Nat.mul_le_mul (Nat.mul_le_mul (show n + 1 ≤ 13 by omega) (show n + 1 ≤ 13 by omega)) (by omega)
  have e2 : ((n : Int) + 1) * (n + 1) * (t : Int) = (((n + 1) * (n + 1) * t : Nat) : Int) := by push_cast; rfl
  rw [e2]
  refine ⟨h4, by omega, by omega⟩
theorem TCF.zero {F nm : Int} {rs : List R4} {wd : List Int} (h12 : wd.length ≤ 12) (hs : 1 ≤ nm ∧ nm ≤ 8) :
    TCF F rs wd nm (wd.length + 1) nm.toNat (((wd.length : Int) + 1) * (wd.length + 1) * nm).toNat (List.replicate (((wd.length : Int) + 1) * (wd.length + 1) * nm).toNat F) 1 0 :=
  TC.zero (fun i j a h1 h2 h3 h4 => (ixC (x := i) (y := j) (n := wd.length) (by omega) h2 h12 hs ⟨h3, h4⟩).2.2.2.2)
theorem TCB.zero {nm : Int} {rs : List R4} {wd : List Int} (h12 : wd.length ≤ 12) (hs : 1 ≤ nm ∧ nm ≤ 8) : TCB rs wd nm 13 8 1248 (List.replicate 1248 false) 1 0 :=
  TC.zero (fun i j a h1 h2 h3 h4 => by omega)
/-! ### Whom a chart is for -/
noncomputable def canB (a0 a1 : Int) (rs : List R4) (xs : List Int) : Bool := gramB a0 a1 rs && isWordB xs a1 && decide (1 ≤ xs.length)
theorem canB_y {a0 a1 : Int} {rs : List R4} {xs : List Int} (h : canB a0 a1 rs xs = true) : gramV a0 a1 rs ∧ (1 ≤ xs.length ∧ xs.length ≤ 12) ∧ allIn xs 0 (a1 - 1) = true := by
  simp only [canB, Bool.and_eq_true, decide_eq_true_eq] at h
  have h2 := isW h.1.2
  exact ⟨of_decide_eq_true h.1.1, ⟨h.2, by omega⟩, h2.2⟩
theorem canB_n1 {a0 a1 : Int} {rs : List R4} {xs : List Int} (h : ¬ gramV a0 a1 rs) : false = canB a0 a1 rs xs := by simp [canB, Bool.eq_false_iff.2 (gramB_no h)]
theorem canB_n2 {a0 a1 : Int} {rs : List R4} {xs : List Int} (h : isWordB xs a1 = false) : false = canB a0 a1 rs xs := by simp [canB, h]
theorem canB_n3 {a0 a1 : Int} {rs : List R4} {xs : List Int} (h : ¬ 1 ≤ xs.length) : false = canB a0 a1 rs xs := by simp [canB, h]
theorem canB_e1 {a0 a1 : Int} {rs : List R4} {xs : List Int} (h : gramV a0 a1 rs) (h2 : isWordB xs a1 = true) : canB a0 a1 rs xs = decide (1 ≤ xs.length) := by simp [canB, gramB_yes h, h2]
theorem canB_e2 {a0 a1 : Int} {rs : List R4} {xs : List Int} (h : gramV a0 a1 rs) (h2 : 1 ≤ xs.length) : wordB xs a1 = canB a0 a1 rs xs := by simp [canB, gramB_yes h, h2, isWordB, h.2.1]
/-! ### The sets of names of all parts -/
open Classical in
noncomputable def nS (rs : List R4) (wd : List Int) (i j : Nat) : Nat → Int
  | 0 => 0
  | k + 1 => if ∃ c, DC rs wd i j (k : Int) c then sB (nS rs wd i j k) (k : Int) else nS rs wd i j k
theorem nS_rng {rs : List R4} {wd : List Int} {i j : Nat} : ∀ {k : Nat}, k ≤ 8 → 0 ≤ nS rs wd i j k ∧ nS rs wd i j k < 65536
  | 0, _ => by simp [nS]
  | k + 1, h => by
    have ih := nS_rng (rs := rs) (wd := wd) (i := i) (j := j) (k := k) (by omega)
    unfold nS; split
    · exact sB_rng ih (by omega)
    · exact ih
theorem nS_y {rs : List R4} {wd : List Int} {i j k : Nat} (h : ∃ c, DC rs wd i j (k : Int) c) : sB (nS rs wd i j k) (k : Int) = nS rs wd i j (k + 1) := by unfold nS; rw [if_pos h]; cases k <;> rfl
theorem nS_n {rs : List R4} {wd : List Int} {i j k : Nat} (h : ¬ ∃ c, DC rs wd i j (k : Int) c) : nS rs wd i j k = nS rs wd i j (k + 1) := by
  conv => rhs; unfold nS
  rw [if_neg h]
noncomputable def rwS (rs : List R4) (wd : List Int) (nm : Int) (i t : Nat) : List Int := (List.range t).map fun q => nS rs wd i (i + 1 + q) nm.toNat
noncomputable def alS (rs : List R4) (wd : List Int) (nm : Int) : Nat → List Int
  | 0 => []
  | i + 1 => alS rs wd nm i ++ rwS rs wd nm i (wd.length - i)
theorem rwS_zero (rs : List R4) (wd : List Int) (nm : Int) (i : Nat) (l : List Int) : l = l ++ rwS rs wd nm i 0 := by simp [rwS]
theorem rwS_put {rs : List R4} {wd : List Int} {nm x : Int} {i t : Nat} {l : List Int} (h : x = nS rs wd i (i + 1 + t) nm.toNat) : l ++ rwS rs wd nm i t ++ [x] = l ++ rwS rs wd nm i (t + 1) := by simp [rwS, List.range_succ, h]
theorem rwS_len (rs : List R4) (wd : List Int) (nm : Int) (i t : Nat) : (rwS rs wd nm i t).length = t := by simp [rwS]
theorem alS_len (rs : List R4) (wd : List Int) (nm : Int) (h12 : wd.length ≤ 12) : ∀ i, (alS rs wd nm i).length ≤ 12 * i
  | 0 => by simp [alS]
  | i + 1 => by
    have := alS_len rs wd nm h12 i
    simp only [alS, List.length_append, rwS_len]; omega
theorem fillF {k N : Nat} {F : Int} (h : k < N) : (List.replicate k F ++ List.replicate (N - k) (0 : Int)).set k F = List.replicate (k + 1) F ++ List.replicate (N - (k + 1)) (0 : Int) := by
  rw [List.set_append, if_neg (by simp), List.length_replicate, Nat.sub_self]
  rw [show N - k = (N - (k + 1)) + 1 from by omega, List.replicate_succ]
  simp [List.replicate_succ', List.append_assoc]
theorem TC.atB {nm : Int} {rs : List R4} {wd : List Int} {ys : List Bool} {I i j k : Nat} (h : TCB rs wd nm 13 8 1248 ys (wd.length + 1) I) (h1 : i < j) (h2 : j ≤ wd.length) (hk : (k : Int) < nm) : ys.getD (i * 104 + j * 8 + k) false = true ↔ ∃ c, DC rs wd i j (k : Int) c := by
  have o := h.at h1 h2 (a := (k : Int)) ⟨by omega, hk⟩
  have e : cl false 13 8 ys i j (k : Int) = ys.getD (i * 104 + j * 8 + k) false := by unfold cl; congr 1; omega
  rw [e] at o
  exact ⟨o.s, fun ⟨c, hc⟩ => o.g c hc⟩
theorem TC.atF {nm l F : Int} {rs : List R4} {wd : List Int} {ys : List Int} {I i j k N : Nat} (h : TCF F rs wd nm (wd.length + 1) nm.toNat N ys (wd.length + 1) I) (g : gramV nm l rs) (hF : 1000000 ≤ F) (h12 : wd.length ≤ 12) (h1 : i < j) (h2 : j ≤ wd.length) (hk : (k : Int) < nm) : ys.getD (((i : Int) * (wd.length + 1) + j) * nm + k).toNat 0 < F ↔ ∃ c, DC rs wd i j (k : Int) c := by
  have o := (h.at h1 h2 (a := (k : Int)) ⟨by omega, hk⟩).rng g hF h12
  have z := (ixC (x := i) (y := j) (n := wd.length) (s := nm) (r := (k : Int)) (by omega) h2 h12 g.1 ⟨by omega, hk⟩).2.2.2.1
  unfold cl at o
  rw [← z] at o
  exact o.2.2
theorem onC_len (a0 a1 : Int) (rs : List R4) (xs : List Int) : (onT (canB a0 a1 rs xs) (alS rs xs a0 xs.length)).length ≤ 200 := by
  by_cases h : canB a0 a1 rs xs = true
  · rw [onT_yes h]; have h1 := canB_y h; have := alS_len rs xs a0 h1.2.1.2 xs.length; omega
  · rw [onT_no h]; simp
end Go.WX
