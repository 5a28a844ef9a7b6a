/- Strings, and structs that are stored within a struct. No condition. -/
import Derived.Test.YtafjpclpmbhmdaaLibM
import Derived.Test.YtafjpclpmbhmdaaLibI
namespace Go.WX
open Go

def stOf (P : Program) (t : TypeId) : Bool := match P.underlying t with | some .string => true | _ => false
theorem stOf_spec {P : Program} {t : TypeId} (h : stOf P t = true) : P.underlying t = some .string := by
  unfold stOf at h
  split at h
  · assumption
  · cases h
/-- The byte of a string at a place. -/
def sB (s : ByteArray) (i : Nat) : Int := if h : i < s.size then ((s[i]'h).toNat : Int) else 0
section
variable {P : Program} {n : Nat} {σ : Fr} {w : World} {x y : Operand} {dst : Option Tmp} {ty : TypeId} {pos : String} {af : Array Edge} {gd : Option (Nat × Bool)} {t u : TypeId} {s r : ByteArray}
theorem PV.lenStr (hx : ev σ x = some (.string s)) (ht : stOf P t = true) : PV P n σ w ⟨dst, .call ⟨.builtin .len, #[x], #[t]⟩, ty, pos, af, gd⟩ (.int .i64 s.size) := fun a ha => by
  simp [execOp, resolve, invoke, builtin, Builtin.len_, ha.eval hx, run_underlying (stOf_spec ht), goInt]
theorem PV.indexStr {kk : IntKind} {i : Int} (hx : ev σ x = some (.string s)) (hy : ev σ y = some (.int kk i)) (ht : stOf P t = true) (hb : 0 ≤ i ∧ i < s.size) : PV P n σ w ⟨dst, .index t x y, ty, pos, af, gd⟩ (.int .u8 (sB s i.toNat)) := fun a ha => by
  have h := run_index_string (P := P) w t s kk i (stOf_spec ht)
  rw [dif_pos hb] at h
  have e : sB s i.toNat = ((s[i.toNat]'(by omega)).toNat : Int) := by unfold sB; rw [dif_pos (by omega)]
  simp [execOp, ha.eval hx, ha.eval hy, h, e]
theorem PV.eqlStr (hx : ev σ x = some (.string s)) (hy : ev σ y = some (.string r)) : PV P n σ w ⟨dst, .binOp .eql t x y u, ty, pos, af, gd⟩ (.bool (s.toList == r.toList)) := fun a ha => by
  simp [execOp, ha.eval hx, ha.eval hy, eqGuard_at_string, binOp_string_eql]
theorem PV.neqStr (hx : ev σ x = some (.string s)) (hy : ev σ y = some (.string r)) : PV P n σ w ⟨dst, .binOp .neq t x y u, ty, pos, af, gd⟩ (.bool (!(s.toList == r.toList))) := fun a ha => by
  have h : binOp .neq t (.string s) (.string r) = pure (.bool (!(s.toList == r.toList))) := by simp [binOp, Op.stringOp, bne]
  simp [execOp, ha.eval hx, ha.eval hy, eqGuard_at_string, h]
end
section
variable {P : Program} {n : Nat} {σ : Fr} {w : World} {x y : Operand} {d : Nat} {ty : TypeId} {pos : String} {af : Array Edge} {gd : Option (Nat × Bool)} {t e : TypeId} {k m : Nat} {p : Addr} {K : Fr → World → Prop}
/-- A store of a struct that lies within a box. -/
theorem OpK.storeAP {new old : List Value} (hm : szOf P t = some m) (hx : ev σ x = some (.pointer (some (padd p k)))) (hy : ev σ y = some (.agg new.toArray)) (hl : new.length = m) (hk : Nat.ble (k + m) old.length = true) (h1 : ∀ v ∈ new, v.oneCell' = true) (hb : Bx w p old)
    (hK : ∀ w', Upd (some p.block) w w' → Bx w' p (old.take k ++ new ++ old.drop (k + m)) → K σ w') : OpK P n ⟨none, .store t x y, ty, pos, af, gd⟩ σ w K := by
  have hk : k + m ≤ old.length := by simpa using hk
  obtain ⟨e, he⟩ := hb.blk
  have hp : padd p k = ⟨p.block, k, none⟩ := by simp [padd, hb.off]
  have h2 := run_storeCells_at P p.block k e new 0 old.toArray w he (by simp; omega) h1
  simp only [Nat.add_zero] at h2
  have hr : (Instr.storeAt t (.pointer (some (padd p k))) (.agg new.toArray)).run P w = .ok () (w.setRow p.block (old.take k ++ new ++ old.drop (k + m)).toArray) := by
    simp only [Instr.storeAt, Instr.sureAddr, storeVar, Sem.run_bind, Sem.run_pure, Result.andThen_ok, szOf_run hm]
    have hz : ¬ ((Value.agg new.toArray).cells.size ≠ m) := by simp [Value.cells, hl]
    rw [if_neg hz, hp]
    show (storeCells ⟨p.block, k, none⟩ new 0).run P w = _
    rw [h2, hl]
  refine .unit rfl (w' := w.setRow p.block (old.take k ++ new ++ old.drop (k + m)).toArray) (fun a ha => ?_) (hK _ (Upd.setRow _ _ _) ⟨hb.spot, hb.off, e, setRow_heap w _ _ _ _ _ he⟩)
  simp [execOp, ha.eval hx, ha.eval hy, hr]
end
@[reducible] def EStr : Enc ByteArray := .sc Value.string
theorem Tr.string {P : Program} {t : TypeId} (h : P.underlying t = some .string) : Tr P t EStr (fun s => s.size ≤ 9223372036854775807) := fun hx => by
  obtain ⟨s, rfl, rfl, hw⟩ := DataW.trod_string h hx
  exact ⟨s, rfl, by simpa [maxLen] using hw⟩
def nameV (s : ByteArray) : Prop := (1 ≤ s.size ∧ s.size ≤ 8) ∧ ∀ i : Nat, i < s.size → 97 ≤ sB s i ∧ sB s i ≤ 122
theorem nameV_mk {s : ByteArray} (h1 : 1 ≤ s.size ∧ s.size ≤ 8) (h2 : ∀ i : Nat, i < s.size → 97 ≤ sB s i ∧ sB s i ≤ 122) : nameV s := ⟨h1, h2⟩
noncomputable instance (s : ByteArray) : Decidable (nameV s) := Classical.propDecidable _
end Go.WX
