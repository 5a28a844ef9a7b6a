/- Laws of single operations that only compute or read: each says what value the operation yields. No condition. -/
import Derived.Test.YthemmoceomdccaaLibA
namespace Go.WX
open Go

/-! ### What the program's table of types says -/
def slOf (P : Program) (t : TypeId) : Option (Nat × Nat × Nat) := match P.underlying t with
  | some (.slice e) => (P.info? e).map fun i => (e, i.size, i.bytes)
  | _ => none
def naOf (P : Program) (t : TypeId) : Bool := match P.underlying t with
  | some (.struct _) | some (.array _ _) | none => false
  | some _ => true
def agOf (P : Program) (t : TypeId) : Option Nat := match P.underlying t with
  | some (.struct _) | some (.array _ _) => (P.info? t).map (·.size)
  | _ => none
def szOf (P : Program) (t : TypeId) : Option Nat := (P.info? t).map (·.size)
def flOf (P : Program) (t : TypeId) (i : Nat) : Option (Nat × Nat × Nat) := match P.underlying t with
  | some (.struct fs) => match fs[i]? with
    | some f => match P.info? f.type with
      | some k => if k.size = 0 then none else some (f.offset, f.type, k.size)
      | none => none
    | none => none
  | _ => none
def arOf (P : Program) (t : TypeId) : Option (Nat × Nat × Nat) := match P.underlying t with
  | some (.array n e) => (P.info? e).map fun i => (n, e, i.size)
  | _ => none
def zvOf (P : Program) (t : TypeId) : Option Value := (P.info? t).bind (·.zero)
def blOf (P : Program) (t : TypeId) : Bool := match P.underlying t with
  | some .bool => true
  | _ => false
def ikOf (P : Program) (t : TypeId) : Option IntKind := match P.underlying t with
  | some (.int k) => some k
  | _ => none

section
variable {P : Program} {t : TypeId}

theorem slOf_spec {e s y : Nat} (h : slOf P t = some (e, s, y)) : P.underlying t = some (.slice e) ∧ ∃ i, P.info? e = some i ∧ i.size = s ∧ i.bytes = y := by
  unfold slOf at h
  split at h
  · rename_i e' hu
    cases hi : P.info? e' with
    | none => simp [hi] at h
    | some i =>
      simp [hi] at h
      obtain ⟨rfl, rfl, rfl⟩ := h
      exact ⟨hu, i, hi, rfl, rfl⟩
  · simp at h

theorem naOf_isAgg (h : naOf P t = true) (w : World) : (isAgg t).run P w = .ok false w := by
  unfold naOf at h
  split at h
  · simp at h
  · simp at h
  · simp at h
  · rename_i d h1 h2 hd
    simp only [isAgg, Sem.run_bind, run_underlying hd, Result.andThen_ok]
    cases d <;> first | rfl | (exact absurd rfl (h1 _)) | (exact absurd rfl (h2 _ _))

theorem agOf_spec {s : Nat} (h : agOf P t = some s) : (∀ w, (isAgg t).run P w = .ok true w) ∧ ∃ i, P.info? t = some i ∧ i.size = s := by
  unfold agOf at h
  split at h
  · rename_i fs hu
    cases hi : P.info? t with
    | none => simp [hi] at h
    | some i =>
      simp [hi] at h
      exact ⟨fun w => by simp [isAgg, run_underlying hu], i, rfl, h⟩
  · rename_i k e hu
    cases hi : P.info? t with
    | none => simp [hi] at h
    | some i =>
      simp [hi] at h
      exact ⟨fun w => by simp [isAgg, run_underlying hu], i, rfl, h⟩
  · simp at h

theorem szOf_run {s : Nat} (h : szOf P t = some s) (w : World) : (sizeOf t).run P w = .ok s w := by
  unfold szOf at h
  cases hi : P.info? t with
  | none => simp [hi] at h
  | some i => simp [hi] at h; simp [sizeOf, typeInfo, hi, h]

theorem flOf_spec {i o u s : Nat} (h : flOf P t i = some (o, u, s)) : ∃ fs f, P.underlying t = some (.struct fs) ∧ fs[i]? = some f ∧ f.offset = o ∧ f.type = u ∧ s ≠ 0 ∧ szOf P u = some s := by
  unfold flOf at h
  split at h
  · rename_i fs hu
    split at h
    · rename_i f hf
      split at h
      · rename_i k hk
        split at h
        · simp at h
        · rename_i hz
          simp at h
          obtain ⟨rfl, rfl, rfl⟩ := h
          exact ⟨fs, f, hu, hf, rfl, rfl, hz, by simp [szOf, hk]⟩
      · simp at h
    · simp at h
  · simp at h

theorem arOf_spec {l e s : Nat} (h : arOf P t = some (l, e, s)) : P.underlying t = some (.array l e) ∧ szOf P e = some s := by
  unfold arOf at h
  split at h
  · rename_i n e' hu
    cases hi : P.info? e' with
    | none => simp [hi] at h
    | some i =>
      simp [hi] at h
      obtain ⟨rfl, rfl, rfl⟩ := h
      exact ⟨hu, by simp [szOf, hi]⟩
  · simp at h

theorem zvOf_run {v : Value} (h : zvOf P t = some v) (w : World) : (zeroValue t).run P w = .ok v w := by
  unfold zvOf at h
  cases hi : P.info? t with
  | none => simp [hi] at h
  | some i => simp [hi] at h; simp [zeroValue, typeInfo, hi, h]

theorem blOf_spec (h : blOf P t = true) : P.underlying t = some .bool := by
  unfold blOf at h
  split at h
  · rename_i hu; exact hu
  · simp at h
theorem equal_bool (h : blOf P t = true) (a b : Bool) (w : World) : (Op.equal t (.bool a) (.bool b)).run P w = .ok (a == b) w := by
  show (Op.equalIn (9999 + 1) t (.bool a) (.bool b)).run P w = _
  rw [Op.equalIn]
  simp only [Sem.run_bind, run_underlying (blOf_spec h), Result.andThen_ok]; rfl

theorem ikOf_spec {k : IntKind} (h : ikOf P t = some k) : P.underlying t = some (.int k) := by
  unfold ikOf at h
  split at h
  · rename_i k' hu; simp at h; subst h; exact hu
  · simp at h
end

/-! ### Operations without memory -/
section
variable {P : Program} {n : Nat} {σ : Fr} {w : World} {x y c z : Operand} {v v1 v2 : Value} {dst : Option Tmp} {ty : TypeId} {pos : String} {af : Array Edge} {g : Option (Nat × Bool)} {t u : TypeId} {k kk : IntKind} {p q : Int} {b b2 : Bool}

theorem PV.move (hx : ev σ x = some v) : PV P n σ w ⟨dst, .move x, ty, pos, af, g⟩ v := fun a ha => by simp [execOp, ha.eval hx]
theorem PV.assign (hx : ev σ x = some v) : PV P n σ w ⟨dst, .assign x, ty, pos, af, g⟩ v := fun a ha => by simp [execOp, ha.eval hx]
theorem PV.pickT (hc : ev σ c = some (.bool true)) (hx : ev σ x = some v) : PV P n σ w ⟨dst, .pick c x y, ty, pos, af, g⟩ v := fun a ha => by simp [execOp, ha.eval hc, ha.eval hx, asBool]
theorem PV.pickF (hc : ev σ c = some (.bool false)) (hy : ev σ y = some v) : PV P n σ w ⟨dst, .pick c x y, ty, pos, af, g⟩ v := fun a ha => by simp [execOp, ha.eval hc, ha.eval hy, asBool]
/-- 'c && y', 'y' already computed. -/
theorem PV.pickAnd (hc : ev σ c = some (.bool b)) (hx : ev σ x = some (.bool b2)) (hy : ev σ y = some (.bool false)) : PV P n σ w ⟨dst, .pick c x y, ty, pos, af, g⟩ (.bool (b && b2)) := fun a ha => by
  cases b <;> simp [execOp, ha.eval hc, ha.eval hx, ha.eval hy, asBool]
theorem PV.pickOr (hc : ev σ c = some (.bool b)) (hx : ev σ x = some (.bool true)) (hy : ev σ y = some (.bool b2)) : PV P n σ w ⟨dst, .pick c x y, ty, pos, af, g⟩ (.bool (b || b2)) := fun a ha => by
  cases b <;> simp [execOp, ha.eval hc, ha.eval hx, ha.eval hy, asBool]

theorem PV.not (hx : ev σ x = some (.bool b)) : PV P n σ w ⟨dst, .unOp .not t x, ty, pos, af, g⟩ (.bool (!b)) := fun a ha => by simp [execOp, ha.eval hx, Op.unary]
theorem PV.neg (hx : ev σ x = some (.int k p)) (hr : k.wrap (0 - p) = q) : PV P n σ w ⟨dst, .unOp .neg t x, ty, pos, af, g⟩ (.int k q) := fun a ha => by
  simp only [execOp, ha.eval hx, Op.unary, Op.intArith, hr]; rfl

/-- The range of int64. -/
def R64 (z : Int) : Prop := -9223372036854775808 ≤ z ∧ z ≤ 9223372036854775807
theorem R64.wrap {z : Int} (h : R64 z) : IntKind.i64.wrap z = z := by
  have := h.1; have := h.2
  rw [IntKind.wrap_i64]; omega

theorem PV.addW (hx : ev σ x = some (.int k p)) (hy : ev σ y = some (.int k q)) : PV P n σ w ⟨dst, .binOp .add t x y u, ty, pos, af, g⟩ (.int k (k.wrap (p + q))) := fun a ha => by
  simp [execOp, ha.eval hx, ha.eval hy, eqGuard_at_int, binOp_add, Op.intArith]
theorem PV.subW (hx : ev σ x = some (.int k p)) (hy : ev σ y = some (.int k q)) : PV P n σ w ⟨dst, .binOp .sub t x y u, ty, pos, af, g⟩ (.int k (k.wrap (p - q))) := fun a ha => by
  simp [execOp, ha.eval hx, ha.eval hy, eqGuard_at_int, binOp_sub, Op.intArith]
theorem PV.mulW (hx : ev σ x = some (.int k p)) (hy : ev σ y = some (.int k q)) : PV P n σ w ⟨dst, .binOp .mul t x y u, ty, pos, af, g⟩ (.int k (k.wrap (p * q))) := fun a ha => by
  simp [execOp, ha.eval hx, ha.eval hy, eqGuard_at_int, binOp_mul, Op.intArith]
theorem PV.add (hx : ev σ x = some (.int .i64 p)) (hy : ev σ y = some (.int .i64 q)) (h : R64 (p + q)) : PV P n σ w ⟨dst, .binOp .add t x y u, ty, pos, af, g⟩ (.int .i64 (p + q)) := by
  have := PV.addW (P := P) (n := n) (w := w) (dst := dst) (ty := ty) (pos := pos) (af := af) (g := g) (t := t) (u := u) hx hy
  rwa [h.wrap] at this
theorem PV.sub (hx : ev σ x = some (.int .i64 p)) (hy : ev σ y = some (.int .i64 q)) (h : R64 (p - q)) : PV P n σ w ⟨dst, .binOp .sub t x y u, ty, pos, af, g⟩ (.int .i64 (p - q)) := by
  have := PV.subW (P := P) (n := n) (w := w) (dst := dst) (ty := ty) (pos := pos) (af := af) (g := g) (t := t) (u := u) hx hy
  rwa [h.wrap] at this
theorem PV.mul (hx : ev σ x = some (.int .i64 p)) (hy : ev σ y = some (.int .i64 q)) (h : R64 (p * q)) : PV P n σ w ⟨dst, .binOp .mul t x y u, ty, pos, af, g⟩ (.int .i64 (p * q)) := by
  have := PV.mulW (P := P) (n := n) (w := w) (dst := dst) (ty := ty) (pos := pos) (af := af) (g := g) (t := t) (u := u) hx hy
  rwa [h.wrap] at this
theorem PV.quo (hx : ev σ x = some (.int k p)) (hy : ev σ y = some (.int k q)) (h0 : q ≠ 0) {r : Int} (h : k.wrap (p.tdiv q) = r) : PV P n σ w ⟨dst, .binOp .quo t x y u, ty, pos, af, g⟩ (.int k r) := fun a ha => by
  simp [execOp, ha.eval hx, ha.eval hy, eqGuard_at_int, binOp_quo, Op.intDiv, h0, h]
theorem PV.rem (hx : ev σ x = some (.int k p)) (hy : ev σ y = some (.int k q)) (h0 : q ≠ 0) {r : Int} (h : p.tmod q = r) : PV P n σ w ⟨dst, .binOp .rem t x y u, ty, pos, af, g⟩ (.int k r) := fun a ha => by
  simp [execOp, ha.eval hx, ha.eval hy, eqGuard_at_int, binOp_rem, Op.intDiv, h0, h]
theorem PV.and (hx : ev σ x = some (.int k p)) (hy : ev σ y = some (.int k q)) : PV P n σ w ⟨dst, .binOp .and t x y u, ty, pos, af, g⟩ (.int k (bits .and k p q)) := fun a ha => by
  simp [execOp, ha.eval hx, ha.eval hy, eqGuard_at_int, binOp_and, intBits_and]
theorem PV.or (hx : ev σ x = some (.int k p)) (hy : ev σ y = some (.int k q)) : PV P n σ w ⟨dst, .binOp .or t x y u, ty, pos, af, g⟩ (.int k (bits .or k p q)) := fun a ha => by
  simp [execOp, ha.eval hx, ha.eval hy, eqGuard_at_int, binOp_or, intBits_or]
theorem PV.xor (hx : ev σ x = some (.int k p)) (hy : ev σ y = some (.int k q)) : PV P n σ w ⟨dst, .binOp .xor t x y u, ty, pos, af, g⟩ (.int k (bits .xor k p q)) := fun a ha => by
  simp [execOp, ha.eval hx, ha.eval hy, eqGuard_at_int, binOp_xor, intBits_xor]
theorem PV.andNot (hx : ev σ x = some (.int k p)) (hy : ev σ y = some (.int k q)) : PV P n σ w ⟨dst, .binOp .andNot t x y u, ty, pos, af, g⟩ (.int k (bits .andNot k p q)) := fun a ha => by
  simp [execOp, ha.eval hx, ha.eval hy, eqGuard_at_int, binOp_andNot, intBits_andNot]
theorem PV.shr (hx : ev σ x = some (.int k p)) (hy : ev σ y = some (.int kk q)) (h0 : 0 ≤ q) (h1 : q ≤ k.bits) : PV P n σ w ⟨dst, .binOp .shr t x y u, ty, pos, af, g⟩ (.int k (p / 2 ^ q.toNat)) := fun a ha => by
  simp only [execOp, ha.eval hx, ha.eval hy, eqGuard_at_int, binOp_shr, shift_shr k kk p q h0 h1]; rfl
theorem PV.shl (hx : ev σ x = some (.int k p)) (hy : ev σ y = some (.int kk q)) (h0 : 0 ≤ q) (h1 : q ≤ k.bits) : PV P n σ w ⟨dst, .binOp .shl t x y u, ty, pos, af, g⟩ (.int k (k.wrap (p * 2 ^ q.toNat))) := fun a ha => by
  simp only [execOp, ha.eval hx, ha.eval hy, eqGuard_at_int, binOp_shl, shift_shl k kk p q h0 h1]; rfl
theorem PV.lss (hx : ev σ x = some (.int k p)) (hy : ev σ y = some (.int k q)) : PV P n σ w ⟨dst, .binOp .lss t x y u, ty, pos, af, g⟩ (.bool (decide (p < q))) := fun a ha => by
  simp [execOp, ha.eval hx, ha.eval hy, eqGuard_at_int, binOp_lss]
theorem PV.leq (hx : ev σ x = some (.int k p)) (hy : ev σ y = some (.int k q)) : PV P n σ w ⟨dst, .binOp .leq t x y u, ty, pos, af, g⟩ (.bool (decide (p ≤ q))) := fun a ha => by
  simp [execOp, ha.eval hx, ha.eval hy, eqGuard_at_int, binOp_leq]
theorem PV.gtr (hx : ev σ x = some (.int k p)) (hy : ev σ y = some (.int k q)) : PV P n σ w ⟨dst, .binOp .gtr t x y u, ty, pos, af, g⟩ (.bool (decide (q < p))) := fun a ha => by
  simp [execOp, ha.eval hx, ha.eval hy, eqGuard_at_int, binOp_gtr]
theorem PV.geq (hx : ev σ x = some (.int k p)) (hy : ev σ y = some (.int k q)) : PV P n σ w ⟨dst, .binOp .geq t x y u, ty, pos, af, g⟩ (.bool (decide (q ≤ p))) := fun a ha => by
  simp [execOp, ha.eval hx, ha.eval hy, eqGuard_at_int, binOp_geq]
theorem PV.eql (hx : ev σ x = some (.int k p)) (hy : ev σ y = some (.int k q)) : PV P n σ w ⟨dst, .binOp .eql t x y u, ty, pos, af, g⟩ (.bool (decide (p = q))) := fun a ha => by
  simp only [execOp, ha.eval hx, ha.eval hy, eqGuard_at_int, binOp_eql]; rfl
theorem PV.neq (hx : ev σ x = some (.int k p)) (hy : ev σ y = some (.int k q)) : PV P n σ w ⟨dst, .binOp .neq t x y u, ty, pos, af, g⟩ (.bool (!decide (p = q))) := fun a ha => by
  simp only [execOp, ha.eval hx, ha.eval hy, eqGuard_at_int, binOp_neq]; rfl
theorem PV.eqlB (hb : blOf P t = true) (hx : ev σ x = some (.bool b)) (hy : ev σ y = some (.bool b2)) : PV P n σ w ⟨dst, .binOp .eql t x y u, ty, pos, af, g⟩ (.bool (b == b2)) := fun a ha => by
  simp [execOp, ha.eval hx, ha.eval hy, eqGuard_at_bool, binOp, equal_bool hb]
theorem PV.neqB (hb : blOf P t = true) (hx : ev σ x = some (.bool b)) (hy : ev σ y = some (.bool b2)) : PV P n σ w ⟨dst, .binOp .neq t x y u, ty, pos, af, g⟩ (.bool (!(b == b2))) := fun a ha => by
  simp [execOp, ha.eval hx, ha.eval hy, eqGuard_at_bool, binOp, equal_bool hb]
theorem PV.convW (hx : ev σ x = some (.int k p)) (hs : (P.underlying t).isSome = true) (ht : ikOf P u = some kk) : PV P n σ w ⟨dst, .convert t u x, ty, pos, af, g⟩ (.int kk (kk.wrap p)) := fun a ha => by
  obtain ⟨d, hd⟩ := Option.isSome_iff_exists.mp hs
  simp [execOp, ha.eval hx, convert, run_underlying hd, run_underlying (ikOf_spec ht), Conv.intToInt]
theorem PV.conv (hx : ev σ x = some (.int k p)) (hs : (P.underlying t).isSome = true) (ht : ikOf P u = some .i64) (h : R64 p) : PV P n σ w ⟨dst, .convert t u x, ty, pos, af, g⟩ (.int .i64 p) := by
  have := PV.convW (P := P) (n := n) (w := w) (dst := dst) (ty := ty) (pos := pos) (af := af) (g := g) hx hs ht
  rwa [h.wrap] at this
theorem PV.extract {vs : List Value} {i : Nat} (hx : ev σ x = some (.tuple vs.toArray)) (hi : vs[i]? = some v) : PV P n σ w ⟨dst, .extract x i, ty, pos, af, g⟩ v := fun a ha => by
  simp [execOp, ha.eval hx, Instr.extract, hi]
theorem PV.nilCheck {a0 : Addr} (hx : ev σ x = some (.pointer (some a0))) : PV P n σ w ⟨dst, .nilCheck x, ty, pos, af, g⟩ (.pointer (some a0)) := fun a ha => by
  simp [execOp, ha.eval hx]
theorem PV.nilCheckF {f : FuncId} {cs : Array Value} (hx : ev σ x = some (.func (.func f) #[] cs)) : PV P n σ w ⟨dst, .nilCheck x, ty, pos, af, g⟩ (.func (.func f) #[] cs) := fun a ha => by
  simp [execOp, ha.eval hx]
theorem PV.makeFunc {f : Fn} {fs cs : List Operand} {vs us : List Value} (hv : evs σ fs = some vs) (hu : evs σ cs = some us) : PV P n σ w ⟨dst, .makeFunc f fs.toArray cs.toArray, ty, pos, af, g⟩ (.func f vs.toArray us.toArray) := fun a ha => by
  simp [execOp, Instr.makeFunc, ha.evals hv, ha.evals hu]
theorem PV.lenS {o : Option Addr} {l cap : Nat} {tt e s yy : Nat} (hx : ev σ x = some (.slice o l cap)) (ht : slOf P tt = some (e, s, yy)) :
    PV P n σ w ⟨dst, .call ⟨.builtin .len, #[x], #[tt]⟩, ty, pos, af, g⟩ (.int .i64 l) := fun a ha => by
  simp [execOp, resolve, invoke, builtin, Builtin.len_, ha.eval hx, run_underlying (slOf_spec ht).1, goInt]
theorem PV.lenA {tt e s l : Nat} (hx : ev σ x = some v) (ht : arOf P tt = some (l, e, s)) :
    PV P n σ w ⟨dst, .call ⟨.builtin .len, #[x], #[tt]⟩, ty, pos, af, g⟩ (.int .i64 l) := fun a ha => by
  simp [execOp, resolve, invoke, builtin, Builtin.len_, ha.eval hx, run_underlying (arOf_spec ht).1, goInt]
theorem PV.min2 {tt : Array TypeId} (hx : ev σ x = some (.int k p)) (hy : ev σ y = some (.int kk q)) : PV P n σ w ⟨dst, .call ⟨.builtin .min, #[x, y], tt⟩, ty, pos, af, g⟩ (.int k (if q < p then q else p)) := fun a ha => by
  simp [execOp, resolve, invoke, builtin, Builtin.min_, ha.eval hx, ha.eval hy, Builtin.min2]
theorem PV.max2 {tt : Array TypeId} (hx : ev σ x = some (.int k p)) (hy : ev σ y = some (.int kk q)) : PV P n σ w ⟨dst, .call ⟨.builtin .max, #[x, y], tt⟩, ty, pos, af, g⟩ (.int k (if q > p then q else p)) := fun a ha => by
  simp [execOp, resolve, invoke, builtin, Builtin.max_, ha.eval hx, ha.eval hy, Builtin.max2]
end
end Go.WX
namespace Go.WX
section
variable {P : Program} {n : Nat} {ops : Array Oper} {Q : Exit → Act → World → Prop} {rest : List Oper} {σ : Fr} {w : World} {d : Nat} {x : Operand} {v : Value} {ty : TypeId} {pos : String} {af : Array Edge}
/-- A move, an assignment: WL.pure in one. -/
theorem WL.mv (hb : Nat.blt d n = true) (hx : ev σ x = some v) (k : WL P n ops Q rest ((d, v) :: σ) w) : WL P n ops Q (⟨some d, .move x, ty, pos, af, none⟩ :: rest) σ w := WL.pure rfl rfl hb (PV.move hx) k
theorem WL.asg (hb : Nat.blt d n = true) (hx : ev σ x = some v) (k : WL P n ops Q rest ((d, v) :: σ) w) : WL P n ops Q (⟨some d, .assign x, ty, pos, af, none⟩ :: rest) σ w := WL.pure rfl rfl hb (PV.assign hx) k
end
end Go.WX
