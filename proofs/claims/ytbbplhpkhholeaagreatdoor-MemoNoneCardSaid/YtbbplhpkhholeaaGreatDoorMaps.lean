/- Maps in memory whose elements are whatever values: what is looked up, stored, deleted. -/
import Derived.Test.YtbbplhpkhholeaaGreatDoorBase
import Derived.Maps.Own
import Derived.Maps.OwnSet
import Derived.Maps.OwnOps
import Derived.Maps.Ext
import Derived.Sort.KeysCollected
set_option linter.unusedVariables false
set_option linter.unusedSimpArgs false
set_option maxRecDepth 20000
namespace Go.Proofs.YtbbplhpkhholeaaGreatDoor
open Go.RowKit Go.Maps

/-- An element reads as itself. -/
def HR : Value → Option (DataW Value × List MemPlace) := fun v => some (.held v, [])
/-- What a map's datum holds at a key. -/
def look (D : DataW Value) (k : Lit) : Option Value := if has D k then (match D.atKey k .nil with | .held v => some v | _ => none) else none

section
variable {P : Program} {k : TypeId} {w : World} {b n : Nat} {D : DataW Value}
theorem atKey_any {D : DataW Value} {kl : Lit} (hD : IsMap D) (hh : has D kl = true) (z z' : DataW Value) : D.atKey kl z = D.atKey kl z' := by
  obtain ⟨es, rfl⟩ := hD
  rw [has_eq] at hh
  simp only [DataW.atKey]
  cases hf : es.find? (fun p => p.1.sameKey kl) with
  | some p => rfl
  | none =>
    rw [List.find?_eq_none] at hf
    obtain ⟨p, hp, hp'⟩ := List.any_eq_true.1 hh
    exact absurd hp' (hf p hp)
theorem look_cases (h : w.ownsMap P k HR b n D) (K : Keyed P k) {t e : TypeId} (ht : P.underlying t = some (.map k e)) {z : Value} (hz : (zeroValue e).run P w = .ok z w) {key : Value} {kl : Lit} (hkey : keyOf P k key = some kl) :
    (Instr.lookup t (.map (some b)) key true).run P w = .ok (.tuple #[(look D kl).getD z, .bool (look D kl).isSome]) w := by
  obtain ⟨v, ps, hrun, hR⟩ := h.look_ok K ht hz (zd := .held z) (zp := []) rfl hkey
  simp only [HR, Option.some.injEq, Prod.mk.injEq] at hR
  rw [hrun]
  unfold look
  by_cases hh : has D kl = true
  · rw [if_pos hh]
    have : D.atKey kl .nil = D.atKey kl (.held z) := atKey_any h.isMap hh _ _
    rw [this, ← hR.1, hh]
    rfl
  · have hh' : has D kl = false := by simpa using hh
    rw [if_neg hh, hh']
    rw [atKey_of_not_has hh'] at hR
    have := hR.1
    simp only [DataW.held.injEq] at this
    rw [this]; rfl
theorem look_plain (h : w.ownsMap P k HR b n D) (K : Keyed P k) {t e : TypeId} (ht : P.underlying t = some (.map k e)) {z : Value} (hz : (zeroValue e).run P w = .ok z w) {key : Value} {kl : Lit} (hkey : keyOf P k key = some kl) :
    (Instr.lookup t (.map (some b)) key false).run P w = .ok ((look D kl).getD z) w := by
  obtain ⟨v, ps, hrun, hR⟩ := h.lookup K ht hz (zd := .held z) (zp := []) rfl hkey
  simp only [HR, Option.some.injEq, Prod.mk.injEq] at hR
  rw [hrun]
  unfold look
  by_cases hh : has D kl = true
  · rw [if_pos hh]
    have : D.atKey kl .nil = D.atKey kl (.held z) := atKey_any h.isMap hh _ _
    rw [this, ← hR.1]
    rfl
  · have hh' : has D kl = false := by simpa using hh
    rw [if_neg hh]
    rw [atKey_of_not_has hh'] at hR
    have := hR.1
    simp only [DataW.held.injEq] at this
    rw [this]; rfl
/-- A datum of which each entry holds a value. -/
theorem look_some (h : w.ownsMap P k HR b n D) (K : Keyed P k) (kl : Lit) : (look D kl).isSome = has D kl := by
  unfold look
  by_cases hh : has D kl = true
  · rw [if_pos hh, hh]
    obtain ⟨es, clock, _, F, _, rfl⟩ := h
    rw [has_eq] at hh
    simp only [DataW.atKey]
    cases hf : (List.foldr DataW.insert [] (List.map (WideElems.rg P k HR) es.toList)).find? (fun p => p.1.sameKey kl) with
    | none =>
      rw [List.find?_eq_none] at hf
      obtain ⟨p, hp, hp'⟩ := List.any_eq_true.1 hh
      exact absurd hp' (hf p hp)
    | some p =>
      have hm := List.mem_of_find?_eq_some hf
      have hm2 : p ∈ List.map (WideElems.rg P k HR) es.toList := mem_sorted.1 hm
      obtain ⟨x, hx, rfl⟩ := List.mem_map.1 hm2
      obtain ⟨y, hy⟩ := F.reads x hx
      rw [WideElems.rg_of hy]
      unfold WideElems.rd at hy
      simp only [HR] at hy
      obtain ⟨key, hk1, hk2⟩ := Option.bind_eq_some_iff.1 hy
      simp only [Option.map_some, Option.some.injEq] at hk2
      subst hk2
      rfl
  · have hh' : has D kl = false := by simpa using hh
    rw [if_neg hh, hh']; rfl
theorem look_put_same (hD : IsMap D) {kl : Lit} (hk : WideAt.IsKeyLit kl) (v : Value) : look (D.put kl (.held v)) kl = some v := by
  unfold look; rw [if_pos (has_put_same hD hk _), atKey_put_same hD hk]
theorem look_put_other {kl k' : Lit} (hne : k' ≠ kl) (v : Value) : look (D.put kl (.held v)) k' = look D k' := by
  unfold look; rw [has_put_other hne, atKey_put_other hne]
theorem look_del_same {kl : Lit} : look (D.del kl) kl = none := by
  unfold look; rw [has_del_same]; rfl
theorem look_del_other {kl k' : Lit} (hne : k' ≠ kl) : look (D.del kl) k' = look D k' := by
  unfold look; rw [has_del_other hne, atKey_del_other hne]
theorem look_empty (kl : Lit) : look (.map []) kl = none := rfl
/-- The bound on the entries may be their number. -/
theorem ownsMap_tight (h : w.ownsMap P k HR b n D) : w.ownsMap P k HR b (Maps.size D) D := by
  obtain ⟨es, clock, hb, F, hs, rfl⟩ := h
  exact ⟨es, clock, hb, F, by simp [Maps.size, length_sorted], rfl⟩
theorem ownsMap_fr {S : Nat → Prop} {w' : World} (h : w.ownsMap P k HR b n D) (hf : Fr S w w') (hb : ¬ S b) : w'.ownsMap P k HR b n D := by
  obtain ⟨es, clock, hb', r⟩ := h
  exact ⟨es, clock, hf.heap hb' hb, r⟩
/-- A block of cells is no map. -/
theorem ownsMap_ne {g : Nat} {cs : Array Value} {T : TypeId} {fr : Nat × Nat} (h : w.ownsMap P k HR b n D) (hg : w.heap[g]? = some (.cells cs T fr)) : g ≠ b := by
  obtain ⟨es, clock, hb', r⟩ := h
  rintro rfl
  rw [hb'] at hg
  cases hg
end
end Go.Proofs.YtbbplhpkhholeaaGreatDoor
