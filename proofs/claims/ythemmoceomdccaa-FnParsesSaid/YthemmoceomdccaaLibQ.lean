/- A struct that is stored within a struct. No condition. -/
import Derived.Test.YthemmoceomdccaaLibM
import Derived.Test.YthemmoceomdccaaLibI
namespace Go.WX
open Go

section
variable {P : Program} {n : Nat} {σ : Fr} {w : World} {x y : Operand} {d : Nat} {ty : TypeId} {pos : String} {af : Array Edge} {gd : Option (Nat × Bool)} {t e : TypeId} {k m : Nat} {p : Addr} {K : Fr → World → Prop}
theorem OpK.storeAP {new old : List Value} (hm : szOf P t = some m) (hx : ev σ x = some (.pointer (some (padd p k)))) (hy : ev σ y = some (.agg new.toArray)) (hl : new.length = m) (hk : Nat.ble (k + m) old.length = true) (h1 : ∀ v ∈ new, v.oneCell' = true) (hb : Bx w p old)
    (hK : ∀ w', Upd (some p.block) w w' → Bx w' p (old.take k ++ new ++ old.drop (k + m)) → K σ w') : OpK P n ⟨none, .store t x y, ty, pos, af, gd⟩ σ w K := by
  have hk : k + m ≤ old.length := by simpa using hk
  obtain ⟨e, he⟩ := hb.blk
  have hp : padd p k = ⟨p.block, k, none⟩ := by simp [padd, hb.off]
  have h2 := run_storeCells_at P p.block k e new 0 old.toArray w he (by simp; omega) h1
  simp only [Nat.add_zero] at h2
  have hr : (Instr.storeAt t (.pointer (some (padd p k))) (.agg new.toArray)).run P w = .ok () (w.setRow p.block (old.take k ++ new ++ old.drop (k + m)).toArray) := by
    simp only [Instr.storeAt, Instr.sureAddr, storeVar, Sem.run_bind, Sem.run_pure, Result.andThen_ok, szOf_run hm]
    have hz : ¬ ((Value.agg new.toArray).cells.size ≠ m) := by simp [Value.cells, hl]
    rw [if_neg hz, hp]
    show (storeCells ⟨p.block, k, none⟩ new 0).run P w = _
    rw [h2, hl]
  refine .unit rfl (w' := w.setRow p.block (old.take k ++ new ++ old.drop (k + m)).toArray) (fun a ha => ?_) (hK _ (Upd.setRow _ _ _) ⟨hb.spot, hb.off, e, setRow_heap w _ _ _ _ _ he⟩)
  simp [execOp, ha.eval hx, ha.eval hy, hr]
end
end Go.WX
