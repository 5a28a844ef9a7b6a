/- Lists of lists that grow: the outer list and each inner one lie in blocks of their own. No condition. -/
import Derived.Test.YthemmoceomdccaaLibN
import Derived.Test.YthemmoceomdccaaLibJ
namespace Go.WX
open Go

/-- The inner lists: number j lies in block os[j], all blocks are apart. -/
structure Inn (w : World) (os : List (Option Nat)) (vs : List Value) (xss : List (List Int)) : Prop where
  lv : vs.length = xss.length
  lo : os.length = xss.length
  get : ∀ j, j < xss.length → Osl VI w (os.getD j none) (vs.getD j (.slice none 0 0)) (xss.getD j [])
  pw : ∀ i j, i < j → j < os.length → Dj (os.getD i none) (os.getD j none)
def DI (os : List (Option Nat)) (og : Option Nat) : Prop := ∀ o ∈ os, Dj o og
def LoI (b : World) (os : List (Option Nat)) : Prop := ∀ o ∈ os, Lo b o
def BlR (c : World) (os0 os : List (Option Nat)) : Prop := ∀ o ∈ os, o ∈ os0 ∨ Lo c o
def DD (os1 os2 : List (Option Nat)) : Prop := ∀ o ∈ os1, DI os2 o

theorem getD_mem {α : Type} {l : List α} {j : Nat} {d : α} (h : j < l.length) : l.getD j d ∈ l := by
  simp [List.getD_eq_getElem?_getD, h]
theorem getD_app1 {α : Type} {l r : List α} {j : Nat} {d : α} (h : j < l.length) : (l ++ r).getD j d = l.getD j d := by
  simp [List.getD_eq_getElem?_getD, List.getElem?_append_left h]
theorem getD_app2 {α : Type} {l r : List α} {j : Nat} {d : α} (h : l.length ≤ j) : (l ++ r).getD j d = r.getD (j - l.length) d := by
  simp [List.getD_eq_getElem?_getD, List.getElem?_append_right h]
theorem mem_getD {α : Type} {l : List α} {a d : α} (h : a ∈ l) : ∃ j, j < l.length ∧ l.getD j d = a := by
  obtain ⟨j, hj, he⟩ := List.mem_iff_getElem.1 h
  exact ⟨j, hj, by simp [List.getD_eq_getElem?_getD, hj, he]⟩

section
variable {b c w w' : World} {os os0 os1 os2 : List (Option Nat)} {vs vs2 : List Value} {xss yss : List (List Int)} {og og' o : Option Nat} {v : Value} {xs : List Int}
theorem Inn.zero (w : World) : Inn w [] [] [] := ⟨rfl, rfl, fun j h => by simp at h, fun i j _ h => by simp at h⟩
theorem Inn.ltO (h : Inn w os vs xss) : ∀ o ∈ os, ∀ g, o = some g → g < w.heap.size := fun o ho g hg => by
  obtain ⟨j, hj, he⟩ := mem_getD (d := none) ho
  have := (h.get j (by rw [← h.lo]; exact hj)).ltO g
  rw [he] at this; exact this hg
theorem Inn.updD (h : Inn w os vs xss) (u : Upd og w w') (d : DI os og) : Inn w' os vs xss :=
  ⟨h.lv, h.lo, fun j hj => (h.get j hj).updD u (d _ (getD_mem (by rw [h.lo]; exact hj))), h.pw⟩
theorem Inn.up (h : Inn w os vs xss) (u : Ext w w') : Inn w' os vs xss := ⟨h.lv, h.lo, fun j hj => (h.get j hj).up u, h.pw⟩
theorem AllO.mk {p : Option Nat → Prop} : ∀ {l : List (Option Nat)}, (∀ o ∈ l, p o) → AllO p l
  | [], _ => trivial
  | a :: r, h => ⟨h a (by simp), AllO.mk (fun o ho => h o (List.mem_cons_of_mem _ ho))⟩
theorem Inn.loop {bad : List (Option Nat)} (h : Inn w os vs xss) (u : UpdL bad w w') (d : AllO (DI os) bad) : Inn w' os vs xss :=
  ⟨h.lv, h.lo, fun j hj => (h.get j hj).loop u (AllO.mk fun q hq => d.of q hq _ (getD_mem (by rw [h.lo]; exact hj))), h.pw⟩
theorem Inn.put (h : Inn w os vs xss) (ho : Osl VI w o v xs) (d : DI os o) : Inn w (os ++ [o]) (vs ++ [v]) (xss ++ [xs]) := by
  refine ⟨by simp [h.lv], by simp [h.lo], fun j hj => ?_, fun i j hij hj => ?_⟩
  · by_cases e : j < xss.length
    · rw [getD_app1 (by rw [h.lo]; exact e), getD_app1 (by rw [h.lv]; exact e), getD_app1 e]; exact h.get j e
    · have e2 : j = xss.length := by simp at hj; omega
      rw [getD_app2 (by rw [h.lo]; omega), getD_app2 (by rw [h.lv]; omega), getD_app2 (by omega), h.lo, h.lv, e2, Nat.sub_self]
      exact ho
  · by_cases e : j < os.length
    · rw [getD_app1 (by omega), getD_app1 e]; exact h.pw i j hij e
    · have e2 : j = os.length := by simp at hj; omega
      rw [getD_app1 (by omega), getD_app2 (by omega), e2, Nat.sub_self]
      exact d _ (getD_mem (by omega))
theorem Inn.one (ho : Osl VI w o v xs) : Inn w [o] [v] [xs] := Inn.put (Inn.zero w) ho (fun _ h => by cases h)
theorem Inn.app (h : Inn w os vs xss) (k : Inn w os2 vs2 yss) (d : DD os2 os) : Inn w (os ++ os2) (vs ++ vs2) (xss ++ yss) := by
  refine ⟨by simp [h.lv, k.lv], by simp [h.lo, k.lo], fun j hj => ?_, fun i j hij hj => ?_⟩
  · by_cases e : j < xss.length
    · rw [getD_app1 (by rw [h.lo]; exact e), getD_app1 (by rw [h.lv]; exact e), getD_app1 e]; exact h.get j e
    · have hj2 : j - xss.length < yss.length := by simp at hj; omega
      rw [getD_app2 (by rw [h.lo]; omega), getD_app2 (by rw [h.lv]; omega), getD_app2 (by omega), h.lo, h.lv]
      exact k.get _ hj2
  · by_cases e : j < os.length
    · rw [getD_app1 (by omega), getD_app1 e]; exact h.pw i j hij e
    · have hj2 : j - os.length < os2.length := by simp at hj; omega
      by_cases e2 : i < os.length
      · rw [getD_app1 e2, getD_app2 (by omega)]
        exact d _ (getD_mem hj2) _ (getD_mem e2)
      · rw [getD_app2 (by omega), getD_app2 (by omega)]
        exact k.pw _ _ (by omega) hj2
theorem Inn.rd (h : Inn w os vs xss) {j : Nat} (hj : j < xss.length) : Rd EI w (vs.getD j (.slice none 0 0)) (xss.getD j []) := (h.get j hj).rd
theorem rdII (h : Osl VV w og v vs) (k : Inn w os vs xss) : Rd (ESl EI) w v xss := rdSl h k.lv (fun j hj => k.rd (by rw [← k.lv]; exact hj))
theorem innE {xss yss : List (List Int)} (h : Inn w os vs xss) (e : xss = yss) : Inn w os vs yss := e ▸ h
/-- The inner lists of a list that holds some of another's. -/
theorem Inn.putSub (h : Inn w os vs xss) (k : Inn w os2 vs2 yss) {n : Nat} (hn : n < yss.length) (hs : ∀ o ∈ os, o ∈ os2.take n) : Inn w (os ++ [os2.getD n none]) (vs ++ [vs2.getD n (.slice none 0 0)]) (xss ++ [yss.getD n []]) := by
  refine h.put (k.get n hn) (fun p hp => ?_)
  obtain ⟨j, hj, he⟩ := mem_getD (d := none) (hs p hp)
  have hj2 : j < n := by simp at hj; omega
  have e2 : (os2.take n).getD j none = os2.getD j none := by simp [List.getD_eq_getElem?_getD, List.getElem?_take, hj2]
  rw [e2] at he
  rw [← he]
  exact k.pw j n hj2 (by rw [k.lo]; exact hn)
theorem sub_put {n : Nat} (hn : n < os2.length) (hs : ∀ o ∈ os, o ∈ os2.take n) : ∀ o ∈ os ++ [os2.getD n none], o ∈ os2.take (n + 1) := fun o ho => by
  rw [take_succ hn none]
  rcases List.mem_append.1 ho with h | h
  · exact List.mem_append.2 (.inl (hs o h))
  · exact List.mem_append.2 (.inr h)
theorem sub_skip {n : Nat} (hs : ∀ o ∈ os, o ∈ os2.take n) : ∀ o ∈ os, o ∈ os2.take (n + 1) := fun o ho => by
  have := hs o ho
  obtain ⟨j, hj, he⟩ := List.mem_iff_getElem.1 this
  rw [List.getElem_take] at he
  have hj1 : j < n ∧ j < os2.length := by simp at hj; omega
  exact List.mem_iff_getElem.2 ⟨j, by simp; omega, by rw [List.getElem_take]; exact he⟩
theorem sub_zero (os2 : List (Option Nat)) : ∀ o ∈ ([] : List (Option Nat)), o ∈ os2.take 0 := fun o h => by cases h

theorem DI.nl (os : List (Option Nat)) : DI os none := fun o _ => Dj.nlR o
theorem DI.zero (og : Option Nat) : DI [] og := fun o h => by cases h
theorem DI.new {g : Nat} (h : Inn w os vs xss) (hg : w.heap.size ≤ g) : DI os (some g) := fun o ho => Dj.new (fun k hk => h.ltO o ho k hk) hg
theorem DI.lo (h : ∀ k, og = some k → k < w.heap.size) (hq : LoI w os) : DI os og := fun o ho => (Dj.lo h (hq o ho)).symm
theorem DI.fresh (h : Inn w os vs xss) (hq : Lo w og) : DI os og := fun o ho => Dj.lo (fun k hk => h.ltO o ho k hk) hq
theorem DI.app (d : DI os og) (h : Inn w os vs xss) (hap : og' = og ∨ ∃ g, og' = some g ∧ w.heap.size ≤ g) : DI os og' := fun o ho => Dj.app (d o ho) (fun k hk => h.ltO o ho k hk) hap
theorem DI.ogr (d : DI os og) (hl : ∀ o ∈ os, ∀ g, o = some g → g < c.heap.size) (r : OgR c og og') : DI os og' := fun o ho k hk he => by
  rcases r k he with h1 | h1
  · exact d o ho k hk h1
  · have := hl o ho k hk; omega
theorem DI.put (d : DI os og) (h : Dj o og) : DI (os ++ [o]) og := fun p hp => by
  rcases List.mem_append.1 hp with h1 | h1
  · exact d p h1
  · rw [List.mem_singleton] at h1; subst h1; exact h
theorem DI.one (h : Dj o og) : DI [o] og := fun p hp => by rw [List.mem_singleton] at hp; subst hp; exact h
theorem DI.cat (d : DI os og) (k : DI os2 og) : DI (os ++ os2) og := fun p hp => (List.mem_append.1 hp).elim (d p) (k p)
theorem DI.blr (d : DI os0 og) (hlt : ∀ g, og = some g → g < c.heap.size) (r : BlR c os0 os) : DI os og := fun o ho => by
  rcases r o ho with h1 | h1
  · exact d o h1
  · exact (Dj.lo hlt h1).symm
theorem DI.all (d : DI os og) : AllO (Dj og) os := AllO.mk fun o ho => (d o ho).symm
theorem LoI.nl (b : World) : LoI b [] := fun o h => by cases h
theorem LoI.up (h : LoI c os) (e : Ext b c) : LoI b os := fun o ho => (h o ho).up e
theorem LoI.put (h : LoI b os) (k : Lo b o) : LoI b (os ++ [o]) := fun p hp => by
  rcases List.mem_append.1 hp with h1 | h1
  · exact h p h1
  · rw [List.mem_singleton] at h1; subst h1; exact k
theorem LoI.one (k : Lo b o) : LoI b [o] := fun p hp => by rw [List.mem_singleton] at hp; subst hp; exact k
theorem LoI.cat (h : LoI b os) (k : LoI b os2) : LoI b (os ++ os2) := fun p hp => (List.mem_append.1 hp).elim (h p) (k p)
theorem LoI.blr (h : LoI b os0) (e : Ext b c) (r : BlR c os0 os) : LoI b os := fun o ho => by
  rcases r o ho with h1 | h1
  · exact h o h1
  · exact h1.up e
theorem LoI.all (h : LoI b os) : AllO (Lo b) os := AllO.mk h
theorem LoI.sub (h : LoI b os2) {n : Nat} (hs : ∀ o ∈ os, o ∈ os2.take n) : LoI b os := fun o ho => h o (List.mem_of_mem_take (hs o ho))
theorem DI.sub (h : DI os2 og) {n : Nat} (hs : ∀ o ∈ os, o ∈ os2.take n) : DI os og := fun o ho => h o (List.mem_of_mem_take (hs o ho))
theorem BlR.refl (c : World) (os : List (Option Nat)) : BlR c os os := fun o h => .inl h
theorem BlR.nil {bad : List (Option Nat)} (_h : UpdL bad c w) : BlR c [] [] := fun o h => by cases h
theorem BlR.lo (hs : c.heap.size ≤ w.heap.size) (h : LoI w os) : BlR c [] os := fun o ho => .inr fun g hg => Nat.le_trans hs (h o ho g hg)
theorem BlR.weak (h : BlR c [] os) : BlR c os0 os := fun o ho => .inr ((h o ho).resolve_left (by simp))
theorem BlR.put (h : BlR c os0 os) (k : OgR c none o) : BlR c os0 (os ++ [o]) := fun p hp => by
  rcases List.mem_append.1 hp with h1 | h1
  · exact h p h1
  · rw [List.mem_singleton] at h1; subst h1; exact .inr (Lo.ogn k)
theorem BlR.one (k : OgR c none o) : BlR c [] [o] := fun p hp => by rw [List.mem_singleton] at hp; subst hp; exact .inr (Lo.ogn k)
theorem BlR.cat (h : BlR c os0 os) (k : BlR c [] os2) : BlR c os0 (os ++ os2) := fun p hp => (List.mem_append.1 hp).elim (h p) (fun h2 => .inr ((k p h2).resolve_left (by simp)))
theorem BlR.trans {d : World} (h : BlR c os0 os1) (hs : c.heap.size ≤ d.heap.size) (k : BlR d os1 os) : BlR c os0 os := fun o ho => by
  rcases k o ho with h1 | h1
  · exact h o h1
  · exact .inr fun g hg => Nat.le_trans hs (h1 g hg)
theorem DD.lo (h : Inn w os vs xss) (hq : LoI w os2) : DD os2 os := fun o ho p hp => Dj.lo (fun k hk => h.ltO p hp k hk) (hq o ho)
theorem DD.zero (os : List (Option Nat)) : DD [] os := fun o h => by cases h
theorem DD.zeroR (os : List (Option Nat)) : DD os [] := fun o _ => DI.zero o
theorem DD.symm (h : DD os os2) : DD os2 os := fun o ho p hp => (h p hp o ho).symm
theorem DD.all (h : DD os os2) : AllO (DI os2) os := AllO.mk h
theorem Osl.srcM {α : Type} {f : α → Value} {ys : List α} {xv : Value} (h : Osl f w og xv ys) (h1 : ∀ z ∈ ys, (f z).oneCell' = true) : Src w 1 xv (ys.map f) := Ow.src h (fun u hu => by
  obtain ⟨z, hz, rfl⟩ := List.mem_map.1 hu
  exact h1 z hz)
theorem one_mem {v : Value} (h : v.oneCell' = true) : ∀ z ∈ [v], (VV z).oneCell' = true := fun z hz => by rw [List.mem_singleton] at hz; subst hz; exact h
theorem Inn.cells (h : Inn w os vs xss) : ∀ z ∈ vs, (VV z).oneCell' = true := fun z hz => by
  obtain ⟨j, hj, he⟩ := mem_getD (d := .slice none 0 0) hz
  have := (h.get j (by rw [← h.lv]; exact hj)).oneCell
  rw [he] at this; exact this
theorem Inn.cell1 (h : Inn w os vs xss) {j : Nat} (hj : j < xss.length) : (vs.getD j (.slice none 0 0)).cells = #[vs.getD j (.slice none 0 0)] := (h.get j hj).cells1
theorem Inn.one1 (h : Inn w os vs xss) {j : Nat} (hj : j < xss.length) : (vs.getD j (.slice none 0 0)).oneCell' = true := (h.get j hj).oneCell
end
end Go.WX
