/- Plain laws on words that have trees; no program. No condition. -/
import Derived.Test.YthemmoceomdccaaPlM
import Derived.Laws.BitsLemmas
namespace Go.WX
open Go

def bt (v x : Int) : Prop := v.toNat.testBit x.toNat = true
def sB (v s : Int) : Int := ((v.toNat ||| 2 ^ s.toNat : Nat) : Int)
theorem bt_zero (x : Int) : ¬ bt 0 x := by simp [bt]
theorem sB_rng {v s : Int} (h : 0 ≤ v ∧ v < 65536) (hs : 0 ≤ s ∧ s < 16) : 0 ≤ sB v s ∧ sB v s < 65536 := by
  have h1 : v.toNat < 2 ^ 16 := by omega
  have h2 : 2 ^ s.toNat < 2 ^ 16 := Nat.pow_lt_pow_right (by decide) (by omega)
  have := Nat.or_lt_two_pow h1 h2
  unfold sB; omega
theorem bt_sB {v s x : Int} (hs : 0 ≤ s) (hx : 0 ≤ x) : bt (sB v s) x ↔ bt v x ∨ x = s := by
  unfold bt sB
  rw [Int.toNat_natCast, Nat.testBit_or, Bool.or_eq_true, Nat.testBit_two_pow]
  simp only [decide_eq_true_eq]
  constructor
  · rintro (h | h)
    · exact .inl h
    · right; omega
  · rintro (h | h)
    · exact .inl h
    · right; omega
theorem wr32 (n : Int) (h0 : 0 ≤ n) (h1 : n < 2 ^ 16) : IntKind.u32.wrap n = n := by
  have : (2 : Int) ^ 16 = 65536 := by decide
  simp [IntKind.wrap, IntKind.bits, IntKind.signed]; omega
theorem wr64 (n : Int) (h0 : 0 ≤ n) (h1 : n < 2 ^ 16) : IntKind.i64.wrap n = n := by
  have : (2 : Int) ^ 16 = 65536 := by decide
  rw [IntKind.wrap_i64]; omega
theorem bt_of {k : IntKind} (hj : 16 ≤ k.bits) (hk : ∀ n : Int, 0 ≤ n → n < 2 ^ 16 → k.wrap n = n) {v x : Int} (h : 0 ≤ v ∧ v < 65536) : bits .and k (v / 2 ^ x.toNat) 1 = 1 ↔ bt v x := by
  obtain ⟨a, rfl⟩ := Int.eq_ofNat_of_zero_le h.1
  have e : ((a : Int) / 2 ^ x.toNat) = ((a / 2 ^ x.toNat : Nat) : Int) := by
    rw [Int.natCast_ediv]; congr 1
  have hlt : a / 2 ^ x.toNat < 2 ^ 16 := Nat.lt_of_le_of_lt (Nat.div_le_self _ _) (by omega)
  have := (bits_nat k 16 hj hk (a / 2 ^ x.toNat) 1 hlt (by decide)).1
  rw [e]
  have h2 : bits .and k ((a / 2 ^ x.toNat : Nat) : Int) 1 = ((a / 2 ^ x.toNat &&& 1 : Nat) : Int) := this
  rw [h2]
  unfold bt
  rw [Int.toNat_natCast, Nat.testBit_eq_decide_div_mod_eq, Nat.and_one_is_mod]
  simp only [decide_eq_true_eq]
  omega
theorem bt32 {v x : Int} (h : 0 ≤ v ∧ v < 65536) : bits .and .u32 (v / 2 ^ x.toNat) 1 = 1 ↔ bt v x := bt_of (by decide) wr32 h
theorem bt64 {v x : Int} (h : 0 ≤ v ∧ v < 65536) : bits .and .i64 (v / 2 ^ x.toNat) 1 = 1 ↔ bt v x := bt_of (by decide) wr64 h
theorem sh_of {k : IntKind} (hk : ∀ n : Int, 0 ≤ n → n < 2 ^ 16 → k.wrap n = n) {s : Int} (hs : 0 ≤ s ∧ s < 16) : k.wrap (1 * 2 ^ s.toNat) = sB 0 s := by
  have h2 : 2 ^ s.toNat < 2 ^ 16 := Nat.pow_lt_pow_right (by decide) (by omega)
  have e : (1 : Int) * 2 ^ s.toNat = ((2 ^ s.toNat : Nat) : Int) := by simp
  rw [e, hk _ (Int.natCast_nonneg _) (by exact_mod_cast h2)]
  simp [sB]
theorem sh32 {s : Int} (hs : 0 ≤ s ∧ s < 16) : IntKind.u32.wrap (1 * 2 ^ s.toNat) = sB 0 s := sh_of wr32 hs
theorem sh64 {s : Int} (hs : 0 ≤ s ∧ s < 16) : IntKind.i64.wrap (1 * 2 ^ s.toNat) = sB 0 s := sh_of wr64 hs
theorem or_of {k : IntKind} (hj : 16 ≤ k.bits) (hk : ∀ n : Int, 0 ≤ n → n < 2 ^ 16 → k.wrap n = n) {v s : Int} (h : 0 ≤ v ∧ v < 65536) (hs : 0 ≤ s ∧ s < 16) : bits .or k v (k.wrap (1 * 2 ^ s.toNat)) = sB v s := by
  rw [sh_of hk hs]
  have h2 : 2 ^ s.toNat < 2 ^ 16 := Nat.pow_lt_pow_right (by decide) (by omega)
  obtain ⟨a, rfl⟩ := Int.eq_ofNat_of_zero_le h.1
  have e : sB 0 s = ((2 ^ s.toNat : Nat) : Int) := by simp [sB]
  rw [e, (bits_nat k 16 hj hk a (2 ^ s.toNat) (by omega) h2).2]
  simp [sB]
theorem or32 {v s : Int} (h : 0 ≤ v ∧ v < 65536) (hs : 0 ≤ s ∧ s < 16) : bits .or .u32 v (IntKind.u32.wrap (1 * 2 ^ s.toNat)) = sB v s := or_of (by decide) wr32 h hs
theorem or64 {v s : Int} (h : 0 ≤ v ∧ v < 65536) (hs : 0 ≤ s ∧ s < 16) : bits .or .i64 v (IntKind.i64.wrap (1 * 2 ^ s.toNat)) = sB v s := or_of (by decide) wr64 h hs

/-- A state that a tree of a part of the word leads to. -/
inductive Der (S : Int) (lf nx wd : List Int) : Nat → Nat → Int → Prop
  | leaf (i : Nat) : i < wd.length → Der S lf nx wd i (i + 1) (lf.getD (wd.getD i 0).toNat 0)
  | node (i k j : Nat) (x y : Int) : Der S lf nx wd i k x → Der S lf nx wd k j y → Der S lf nx wd i j (nx.getD (x * S + y).toNat 0)
structure GT (S : Int) (lf nx wd : List Int) : Prop where
  s : 1 ≤ S ∧ S ≤ 16
  il : allIn lf 0 (S - 1) = true
  ix : allIn nx 0 (S - 1) = true
  iw : allIn wd 0 ((lf.length : Int) - 1) = true
  nl : (nx.length : Int) = S * S
variable {S : Int} {lf nx wd : List Int}
theorem Der.lt {i j : Nat} {z : Int} (h : Der S lf nx wd i j z) : i < j ∧ j ≤ wd.length := by
  induction h with
  | leaf i hi => omega
  | node i k j x y h1 h2 i1 i2 => omega
theorem lin {S x y : Int} (hS : 1 ≤ S) (hx : 0 ≤ x ∧ x < S) (hy : 0 ≤ y ∧ y < S) : 0 ≤ x * S + y ∧ x * S + y < S * S := by
  have h1 : 0 ≤ x * S := Int.mul_nonneg hx.1 (by omega)
  have h2 : (x + 1) * S ≤ S * S := Int.mul_le_mul_of_nonneg_right (by omega) (by omega)
  rw [Int.add_mul] at h2; omega
theorem linU {S x y x2 y2 : Int} (hS : 1 ≤ S) (hy : 0 ≤ y ∧ y < S) (hy2 : 0 ≤ y2 ∧ y2 < S) (h : x * S + y = x2 * S + y2) : x = x2 ∧ y = y2 := by
  have e : x = x2 := by
    rcases Int.lt_trichotomy x x2 with c | c | c
    · have := Int.mul_le_mul_of_nonneg_right (show x + 1 ≤ x2 by omega) (show 0 ≤ S by omega)
      rw [Int.add_mul] at this; omega
    · exact c
    · have := Int.mul_le_mul_of_nonneg_right (show x2 + 1 ≤ x by omega) (show 0 ≤ S by omega)
      rw [Int.add_mul] at this; omega
  subst e; exact ⟨rfl, by omega⟩
theorem GT.leaf (g : GT S lf nx wd) {i : Nat} (hi : i < wd.length) : 0 ≤ lf.getD (wd.getD i 0).toNat 0 ∧ lf.getD (wd.getD i 0).toNat 0 < S := by
  have h1 := allIn_get g.iw hi
  have := allIn_get (k := (wd.getD i 0).toNat) g.il (by omega)
  omega
theorem GT.join (g : GT S lf nx wd) {x y : Int} (hx : 0 ≤ x ∧ x < S) (hy : 0 ≤ y ∧ y < S) : 0 ≤ nx.getD (x * S + y).toNat 0 ∧ nx.getD (x * S + y).toNat 0 < S := by
  have h1 := lin g.s.1 hx hy
  have hn := g.nl
  have := allIn_get (k := (x * S + y).toNat) g.ix (by omega)
  omega
theorem Der.rng (g : GT S lf nx wd) {i j : Nat} {z : Int} (h : Der S lf nx wd i j z) : 0 ≤ z ∧ z < S := by
  induction h with
  | leaf i hi => exact g.leaf hi
  | node i k j x y h1 h2 i1 i2 => exact g.join i1 i2

/-- A cell that holds the states of the part i to j. -/
structure OkD (S : Int) (lf nx wd : List Int) (v : Int) (i j : Nat) : Prop where
  r : 0 ≤ v ∧ v < 65536
  i : ∀ x, 0 ≤ x → x < S → (bt v x ↔ Der S lf nx wd i j x)
/-- A cell under way: the places before k are done, and at k the pairs of states before number m. -/
structure Pg (S : Int) (lf nx wd : List Int) (v : Int) (i j k : Nat) (m : Int) : Prop where
  r : 0 ≤ v ∧ v < 65536
  so : ∀ z, 0 ≤ z → z < S → bt v z → Der S lf nx wd i j z
  le : j = i + 1 → ∀ z, Der S lf nx wd i j z → bt v z
  co : ∀ (k' : Nat) (x y : Int), (k' < k ∨ (k' = k ∧ x * S + y < m)) → Der S lf nx wd i k' x → Der S lf nx wd k' j y → bt v (nx.getD (x * S + y).toNat 0)
theorem Der.one {i : Nat} {z : Int} (h : Der S lf nx wd i (i + 1) z) : z = lf.getD (wd.getD i 0).toNat 0 := by
  generalize hj : i + 1 = j at h
  cases h with
  | leaf _ hi => rfl
  | node _ k _ x y h1 h2 => have := h1.lt; have := h2.lt; omega
theorem Pg.zero {i j : Nat} (g : GT S lf nx wd) (hj : j ≠ i + 1) : Pg S lf nx wd 0 i j (i + 1) 0 :=
  ⟨by omega, fun z _ _ h => absurd h (bt_zero z), fun h => absurd h hj, fun k' x y h h1 h2 => by
    have := h1.lt; have a := h1.rng g; have c := h2.rng g
    have := lin g.s.1 a c
    omega⟩
theorem Pg.one {i : Nat} (g : GT S lf nx wd) (hi : i < wd.length) : Pg S lf nx wd (sB 0 (lf.getD (wd.getD i 0).toNat 0)) i (i + 1) (i + 1) 0 := by
  have hl := g.leaf hi
  have hs := g.s
  refine ⟨sB_rng (by omega) (by omega), fun z h0 _ h => ?_, fun _ z h => ?_, fun k' x y h h1 h2 => ?_⟩
  · rcases (bt_sB hl.1 h0).1 h with h | rfl
    · exact absurd h (bt_zero z)
    · exact .leaf i hi
  · have e := h.one
    rw [e]; exact (bt_sB hl.1 hl.1).2 (.inr rfl)
  · have := h1.lt; have := h2.lt; omega
theorem Pg.take {v : Int} {i j k : Nat} {m x y : Int} (g : GT S lf nx wd) (h : Pg S lf nx wd v i j k m) (hm : m = x * S + y) (hx : Der S lf nx wd i k x) (hy : Der S lf nx wd k j y) :
    Pg S lf nx wd (sB v (nx.getD (x * S + y).toNat 0)) i j k (m + 1) := by
  have a := hx.rng g; have c := hy.rng g
  have hj := g.join a c; have hs := g.s
  refine ⟨sB_rng h.r (by omega), fun z h0 h1 hb => ?_, fun hj2 z hd => ?_, fun k' x' y' h' h1 h2 => ?_⟩
  · rcases (bt_sB hj.1 h0).1 hb with hb | rfl
    · exact h.so z h0 h1 hb
    · exact .node i k j x y hx hy
  · exact (bt_sB hj.1 (hd.rng g).1).2 (.inl (h.le hj2 z hd))
  · have a' := h1.rng g; have c' := h2.rng g
    have hj' := g.join a' c'
    refine (bt_sB hj.1 hj'.1).2 ?_
    rcases h' with h' | ⟨rfl, h'⟩
    · exact .inl (h.co k' x' y' (.inl h') h1 h2)
    · by_cases e : x' * S + y' < m
      · exact .inl (h.co k' x' y' (.inr ⟨rfl, e⟩) h1 h2)
      · obtain ⟨rfl, rfl⟩ := linU hs.1 c' c (show x' * S + y' = x * S + y by omega)
        exact .inr rfl
theorem Pg.skip {v : Int} {i j k : Nat} {m x y : Int} (g : GT S lf nx wd) (h : Pg S lf nx wd v i j k m) (hm : m = x * S + y) (hy : 0 ≤ y ∧ y < S) (hn : ¬ (Der S lf nx wd i k x ∧ Der S lf nx wd k j y)) :
    Pg S lf nx wd v i j k (m + 1) := by
  have hs := g.s
  refine ⟨h.r, h.so, h.le, fun k' x' y' h' h1 h2 => ?_⟩
  rcases h' with h' | ⟨rfl, h'⟩
  · exact h.co k' x' y' (.inl h') h1 h2
  · by_cases e : x' * S + y' < m
    · exact h.co k' x' y' (.inr ⟨rfl, e⟩) h1 h2
    · obtain ⟨rfl, rfl⟩ := linU hs.1 (h2.rng g) hy (show x' * S + y' = x * S + y by omega)
      exact absurd ⟨h1, h2⟩ hn
theorem Pg.nextk {v : Int} {i j k : Nat} {m : Int} (g : GT S lf nx wd) (h : Pg S lf nx wd v i j k m) (hm : m = S * S) : Pg S lf nx wd v i j (k + 1) 0 := by
  refine ⟨h.r, h.so, h.le, fun k' x' y' h' h1 h2 => ?_⟩
  have l := lin g.s.1 (h1.rng g) (h2.rng g)
  refine h.co k' x' y' ?_ h1 h2
  omega
theorem Pg.done {v : Int} {i j k : Nat} (g : GT S lf nx wd) (h : Pg S lf nx wd v i j k 0) (hk : k = j ∨ (j ≤ k ∧ k = i + 1)) : OkD S lf nx wd v i j := by
  refine ⟨h.r, fun x h0 h1 => ⟨h.so x h0 h1, fun hd => ?_⟩⟩
  cases hd with
  | leaf _ hi => exact h.le rfl _ (.leaf i hi)
  | node _ k' _ x y d1 d2 => have := d1.lt; have := d2.lt; exact h.co k' x y (.inl (by omega)) d1 d2
theorem Pg.yes {v : Int} {i j k : Nat} {m : Int} (h : Pg S lf nx wd v i j k m) : 0 ≤ v ∧ v < 65536 := h.r

/-- A table: the parts that are shorter than L, and those of length L before number I, are done; the rest is empty. -/
structure Tb (S : Int) (lf nx wd : List Int) (W N : Nat) (xs : List Int) (L I : Nat) : Prop where
  n : xs.length = N
  ok : ∀ i j, i < j → j ≤ wd.length → (j - i < L ∨ (j - i = L ∧ i < I)) → OkD S lf nx wd (xs.getD (i * W + j) 0) i j
  z : ∀ i j, i < j → j ≤ wd.length → ¬ (j - i < L ∨ (j - i = L ∧ i < I)) → xs.getD (i * W + j) 0 = 0
theorem ixU {W i j i2 j2 : Nat} (hj : j < W) (hj2 : j2 < W) (h : i * W + j = i2 * W + j2) : i = i2 ∧ j = j2 := by
  have := linU (S := (W : Int)) (x := i) (y := j) (x2 := i2) (y2 := j2) (by omega) (by omega) (by omega) (by exact_mod_cast h)
  omega
theorem gset_eq {l : List Int} {i : Nat} {v : Int} (h : i < l.length) : (l.set i v).getD i 0 = v := by simp [h]
theorem gset_ne {l : List Int} {i j : Nat} {v : Int} (h : i ≠ j) : (l.set i v).getD j 0 = l.getD j 0 := by simp [List.getD_eq_getElem?_getD, List.getElem?_set_ne h]
theorem Tb.zero (W N : Nat) : Tb S lf nx wd W N (List.replicate N 0) 1 0 :=
  ⟨by simp, fun i j h1 _ h => by omega, fun i j _ _ _ => by simp only [List.getD_eq_getElem?_getD, List.getElem?_replicate]; split <;> rfl⟩
theorem Tb.put {W N L I : Nat} {xs : List Int} {v : Int} (h : Tb S lf nx wd W N xs L I) (hW : wd.length < W) (hL : 1 ≤ L) (hI : I + L ≤ wd.length) (hN : I * W + (I + L) < N) (hv : OkD S lf nx wd v I (I + L)) :
    Tb S lf nx wd W N (xs.set (I * W + (I + L)) v) L (I + 1) := by
  have hn := h.n
  refine ⟨by rw [List.length_set]; exact hn, fun i j h1 h2 h3 => ?_, fun i j h1 h2 h3 => ?_⟩
  · by_cases e : i = I ∧ j = I + L
    · obtain ⟨rfl, rfl⟩ := e
      rw [gset_eq (by omega)]; exact hv
    · rw [gset_ne (fun he => by have := ixU (by omega) (by omega) he; omega)]
      exact h.ok i j h1 h2 (by omega)
  · rw [gset_ne (fun he => by have := ixU (by omega) (by omega) he; omega)]
    exact h.z i j h1 h2 (by omega)
theorem Tb.next {W N L I : Nat} {xs : List Int} (h : Tb S lf nx wd W N xs L I) (hI : wd.length < I + L) : Tb S lf nx wd W N xs (L + 1) 0 :=
  ⟨h.n, fun i j h1 h2 h3 => h.ok i j h1 h2 (by omega), fun i j h1 h2 h3 => h.z i j h1 h2 (by omega)⟩
/-- What the walk reads at one turn: the cell (i, k) and the cell (k, j), while the cell (i, j) is under way. -/
theorem Tb.left {W N L I k : Nat} {xs : List Int} {v : Int} (h : Tb S lf nx wd W N xs L I) (hW : wd.length < W) (hI : I + L ≤ wd.length) (h1 : I < k) (h2 : k < I + L) :
    (xs.set (I * W + (I + L)) v).getD (I * W + k) 0 = xs.getD (I * W + k) 0 ∧ OkD S lf nx wd (xs.getD (I * W + k) 0) I k :=
  ⟨gset_ne (fun he => by have := ixU (by omega) (by omega) he; omega), h.ok I k h1 (by omega) (by omega)⟩
theorem Tb.right {W N L I k : Nat} {xs : List Int} {v : Int} (h : Tb S lf nx wd W N xs L I) (hW : wd.length < W) (hI : I + L ≤ wd.length) (h1 : I < k) (h2 : k < I + L) :
    (xs.set (I * W + (I + L)) v).getD (k * W + (I + L)) 0 = xs.getD (k * W + (I + L)) 0 ∧ OkD S lf nx wd (xs.getD (k * W + (I + L)) 0) k (I + L) :=
  ⟨gset_ne (fun he => by have := ixU (by omega) (by omega) he; omega), h.ok k (I + L) h2 (by omega) (by omega)⟩
open Classical in
noncomputable def hasT (S : Int) (lf nx wd : List Int) (en : List Bool) : Bool := decide (∃ s : Nat, s < en.length ∧ en.getD s false = true ∧ Der S lf nx wd 0 wd.length (s : Int))
open Classical in
theorem hasT_yes {en : List Bool} {s : Nat} (h1 : s < en.length) (h2 : en.getD s false = true) (h3 : Der S lf nx wd 0 wd.length (s : Int)) : hasT S lf nx wd en = true := by
  unfold hasT; exact decide_eq_true ⟨s, h1, h2, h3⟩
open Classical in
theorem hasT_no {en : List Bool} (h : ∀ s : Nat, s < en.length → en.getD s false = true → ¬ Der S lf nx wd 0 wd.length (s : Int)) : hasT S lf nx wd en = false := by
  unfold hasT; exact decide_eq_false (fun ⟨s, a, c, d⟩ => h s a c d)
theorem Tb.top {W N I : Nat} {xs : List Int} (h : Tb S lf nx wd W N xs (wd.length + 1) I) (h0 : 0 < wd.length) : OkD S lf nx wd (xs.getD wd.length 0) 0 wd.length := by
  have := h.ok 0 wd.length h0 (Nat.le_refl _) (by omega)
  rwa [Nat.zero_mul, Nat.zero_add] at this
theorem Tb.topW {W N I : Nat} {xs : List Int} (h : Tb S lf nx wd W N xs (wd.length + 1) I) (h0 : 0 < wd.length) : OkD S lf nx wd (xs.getD (0 * W + wd.length) 0) 0 wd.length :=
  h.ok 0 wd.length h0 (Nat.le_refl _) (by omega)
theorem isW {xs : List Int} {L : Int} (h : isWordB xs L = true) : (xs.length : Int) ≤ 12 ∧ allIn xs 0 (L - 1) = true := by
  simp only [isWordB, wordB, Bool.and_eq_true, decide_eq_true_eq] at h; exact h.2
theorem isW2 {xs : List Int} {L : Int} (h : wordB xs L = true) : (xs.length : Int) ≤ 12 ∧ allIn xs 0 (L - 1) = true := by
  simp only [wordB, Bool.and_eq_true, decide_eq_true_eq] at h; exact h
theorem GT.of {a0 a1 : Int} {xa2 xa3 xs : List Int} {xa4 : List Bool} (h : (1 ≤ a0 ∧ a0 ≤ 16) ∧ (1 ≤ a1 ∧ a1 ≤ 4) ∧ (xa2.length : Int) = a1 ∧ (xa3.length : Int) = a0 * a0 ∧ (xa4.length : Int) = a0 ∧ allIn xa2 0 (a0 - 1) = true ∧ allIn xa3 0 (a0 - 1) = true) (hw : allIn xs 0 (a1 - 1) = true) : GT a0 xa2 xa3 xs :=
  ⟨h.1, h.2.2.2.2.2.1, h.2.2.2.2.2.2, by rw [h.2.2.1]; exact hw, h.2.2.2.1⟩
theorem Pg.to {v : Int} {i j k : Nat} {m m' : Int} (h : Pg S lf nx wd v i j k m) (e : m = m') : Pg S lf nx wd v i j k m' := e ▸ h
theorem Pg.at {v v' : Int} {i j k : Nat} {m : Int} (h : Pg S lf nx wd v i j k m) (e : v = v') : Pg S lf nx wd v' i j k m := e ▸ h
theorem rowE {x y : Nat} {s : Int} (h : (y : Int) = s) : (x : Int) * s + y = ((x + 1 : Nat) : Int) * s := by
  rw [h, Int.natCast_add, Int.add_mul]; simp
theorem set_same {l : List Int} {i : Nat} {v : Int} (h : l.getD i 0 = v) (hi : i < l.length) : l.set i v = l := by
  subst h
  rw [List.getD_eq_getElem?_getD, List.getElem?_eq_getElem hi]
  exact List.set_getElem_self hi
theorem wrU {k : Int} (h : 0 ≤ k ∧ k < 65536) : IntKind.u64.wrap k = k := by rw [IntKind.wrap_u64]; omega
theorem noT {en : List Bool} {k : Nat} {D : Nat → Prop} (h : ∀ s : Nat, s < k → en.getD s false = true → ¬ D s) (hk : en.getD k false = true → ¬ D k) : ∀ s : Nat, s < k + 1 → en.getD s false = true → ¬ D s := fun s hs => by
  rcases Nat.lt_succ_iff_lt_or_eq.1 hs with h1 | rfl
  · exact h s h1
  · exact hk
def whB (t : Bool) (xs : List Int) (a1 : Int) : Bool := t && isWordB xs a1 && decide (1 ≤ xs.length)
noncomputable def whR (t : Bool) (S a1 : Int) (lf nx wd : List Int) (en : List Bool) : Bool := whB t wd a1 && hasT S lf nx wd en
theorem whB_y {t : Bool} {xs : List Int} {a1 : Int} (h : t = true) (h2 : isWordB xs a1 = true) (h3 : 1 ≤ xs.length) : whB t xs a1 = true := by simp [whB, h, h2, h3]
theorem whB_n1 {t : Bool} {xs : List Int} {a1 : Int} (h : t = false) : whB t xs a1 = false := by simp [whB, h]
theorem whB_n2 {t : Bool} {xs : List Int} {a1 : Int} (h : isWordB xs a1 = false) : whB t xs a1 = false := by simp [whB, h]
theorem whB_n3 {t : Bool} {xs : List Int} {a1 : Int} (h : ¬ 1 ≤ xs.length) : whB t xs a1 = false := by simp [whB, h]
theorem whV_n {t : Bool} {S a1 : Int} {lf nx wd : List Int} {en : List Bool} (h : whB t wd a1 = false) : Value.tuple #[.bool false, .bool false] = .tuple #[.bool (whR t S a1 lf nx wd en), .bool (whB t wd a1)] := by simp [whR, h]
theorem whV_y {t c : Bool} {S a1 : Int} {lf nx wd : List Int} {en : List Bool} (h : whB t wd a1 = true) (h2 : hasT S lf nx wd en = c) : Value.tuple #[.bool c, .bool true] = .tuple #[.bool (whR t S a1 lf nx wd en), .bool (whB t wd a1)] := by simp [whR, h, h2]
theorem sq13 {x n : Nat} (hx : x ≤ n) (hn : n ≤ 12) : 0 ≤ (x : Int) * (n + 1) ∧ (x : Int) * (n + 1) ≤ 156 := by
  have h1 : x * (n + 1) ≤ 12 * 13 := Nat.mul_le_mul (by omega) (by omega)
  have e : (x : Int) * (n + 1) = ((x * (n + 1) : Nat) : Int) := by push_cast; rfl
  rw [e]; omega
theorem sqN {n : Nat} (hn : n ≤ 12) : 0 ≤ ((n : Int) + 1) * (n + 1) ∧ ((n : Int) + 1) * (n + 1) ≤ 169 := by
  have h1 : (n + 1) * (n + 1) ≤ 13 * 13 := Nat.mul_le_mul (by omega) (by omega)
  have e : ((n : Int) + 1) * (n + 1) = (((n + 1) * (n + 1) : Nat) : Int) := by push_cast; rfl
  rw [e]; omega
theorem sqE {n : Nat} : (((n : Int) + 1) * (n + 1)).toNat = (n + 1) * (n + 1) := by
  have e : ((n : Int) + 1) * (n + 1) = (((n + 1) * (n + 1) : Nat) : Int) := by push_cast; rfl
  rw [e, Int.toNat_natCast]
theorem ixZ {x y n : Nat} (hx : x ≤ n) (hy : y ≤ n) : (0 ≤ (x : Int) * (n + 1) + y ∧ (x : Int) * (n + 1) + y < ((n + 1) * (n + 1) : Nat)) ∧ x * (n + 1) + y < (n + 1) * (n + 1) ∧ ((x : Int) * (n + 1) + y).toNat = x * (n + 1) + y := by
  have h1 : (x + 1) * (n + 1) ≤ (n + 1) * (n + 1) := Nat.mul_le_mul_right _ (by omega)
  rw [Nat.add_mul] at h1
  have e : (x : Int) * (n + 1) + y = ((x * (n + 1) + y : Nat) : Int) := by push_cast; rfl
  rw [e, Int.toNat_natCast]
  refine ⟨⟨by omega, by omega⟩, by omega, rfl⟩
theorem tdm {m s : Int} (hm : 0 ≤ m) (hs : 1 ≤ s) : m = m.tdiv s * s + m.tmod s := by
  have := Int.tdiv_mul_add_tmod m s; omega
theorem isW_of {xs : List Int} {L : Int} (hL : 1 ≤ L ∧ L ≤ 4) (h : wordB xs L = true) : isWordB xs L = true := by simp [isWordB, hL, h]
theorem isW_no {xs : List Int} {L : Int} (h : wordB xs L = false) : isWordB xs L = false := by simp [isWordB, h]
theorem ixZ3 {x y y2 n : Nat} (hx : x ≤ n) (hy : y + y2 ≤ n) : (0 ≤ (x : Int) * (n + 1) + y + y2 ∧ (x : Int) * (n + 1) + y + y2 < ((n + 1) * (n + 1) : Nat)) ∧ x * (n + 1) + (y + y2) < (n + 1) * (n + 1) ∧ ((x : Int) * (n + 1) + y + y2).toNat = x * (n + 1) + (y + y2) := by
  have := ixZ (x := x) (y := y + y2) hx hy
  have e : (x : Int) * (n + 1) + ((y + y2 : Nat) : Int) = (x : Int) * (n + 1) + y + y2 := by push_cast; omega
  rwa [e] at this
end Go.WX
