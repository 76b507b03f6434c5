/- Package disk: Names. -/
import Derived.Test.YtbbplhpkhholeaaGreatDoorDisk6
import Derived.Test.YtbbplhpkhholeaaGreatDoorIter
import Derived.Test.YtbbplhpkhholeaaGreatDoorShelf
set_option linter.unusedVariables false
set_option linter.unusedSimpArgs false
set_option maxRecDepth 20000
namespace Go.Proofs.YtbbplhpkhholeaaGreatDoor
open Go.RowKit Go.Maps

theorem own_base {w : World} {B B' : Nat} {e : TypeId} {size n : Nat} {v : Value} {xs : List Value} (h : w.ownsRow B e size v n xs) (hb : B' ≤ B) : w.ownsRow B' e size v n xs := by
  obtain ⟨h1, h2⟩ := h
  refine ⟨h1, ?_⟩
  rcases h2 with h2 | ⟨g, cap, cur, rfl, hb0, r⟩
  · exact .inl h2
  · exact .inr ⟨g, cap, cur, rfl, by omega, r⟩
theorem nodup_map_inj {α β : Type} {f : α → β} (hf : ∀ a b, f a = f b → a = b) {l : List α} (h : l.Nodup) : (l.map f).Nodup := by
  rw [List.nodup_iff_pairwise_ne] at *
  exact List.pairwise_map.2 (h.imp fun {a b} hne e => hne (hf a b e))
/-- The keys of a disk's map. -/
theorem keys_names {w : World} {p : Nat} {mb n : Nat} {D : DataW Value} {fs : Fls} (hm : w.ownsMap Tryz.prog 9 HR mb n D) (h : FilesIn w D fs) {ss : List (List UInt8)} (hs : ss.Perm (strKeys D)) :
    ((ss.mergeSort (fun x y => decide (x ≤ y))).map (fun l => (⟨l.toArray⟩ : ByteArray))).Perm (names fs) ∧ ∀ s ∈ names fs, s.size ≤ maxLen := by
  have hsm := look_some hm keyed_str
  obtain ⟨es, rfl, hko⟩ := hm.keysOf
  obtain ⟨es', e', hp⟩ := hm.tidy keyed_str
  cases e'
  have hinj : ∀ a b : ByteArray, a.data.toList = b.data.toList → a = b := fun a b e => key_inj (by unfold key; rw [e])
  have hk : ∀ q ∈ es, ∃ x, q.1 = .string x := fun q hq => by
    obtain ⟨kv, hkv⟩ := hko q hq
    obtain ⟨x, _, hx, _⟩ := Maps.keyOf_str Tryz.underlying9 hkv
    exact ⟨x, hx⟩
  have hmem : ∀ x, x ∈ (names fs).map (fun s => s.data.toList) ↔ has (.map es) (.string x) = true := by
    intro x
    have hx : (Lit.string x) = key ⟨x.toArray⟩ := by simp [key]
    rw [hx, ← hsm]
    constructor
    · intro hx
      obtain ⟨s, hs, rfl⟩ := List.mem_map.1 hx
      obtain ⟨bs, hbs⟩ := Option.isSome_iff_exists.1 (mem_names.1 hs)
      obtain ⟨_, _, v, hv, _⟩ := h.yes s bs hbs
      have : (⟨s.data.toList.toArray⟩ : ByteArray) = s := by simp
      rw [this, hv]; rfl
    · intro hx
      refine List.mem_map.2 ⟨⟨x.toArray⟩, mem_names.2 ?_, by simp⟩
      cases hf : flook fs ⟨x.toArray⟩ with
      | some _ => rfl
      | none => rw [h.no _ hf] at hx; cases hx
  have hperm := perm_strKeys hp hk (nodup_map_inj hinj h.nodup) hmem
  refine ⟨?_, ?_⟩
  · have h1 := ((List.mergeSort_perm ss (fun x y => decide (x ≤ y))).trans hs).trans hperm.symm
    have h2 := h1.map (fun l => (⟨l.toArray⟩ : ByteArray))
    rw [List.map_map] at h2
    have e : (names fs).map ((fun l => (⟨l.toArray⟩ : ByteArray)) ∘ fun s => s.data.toList) = names fs := by
      conv => rhs; rw [← List.map_id (names fs)]
      apply List.map_congr_left
      intro s _
      simp
    rw [e] at h2
    exact h2
  · intro s hs
    have := strKeys_le hm Tryz.underlying9 s.data.toList (hperm.mem_iff.1 (List.mem_map.2 ⟨s, hs, rfl⟩))
    simpa using this
theorem names_any (w : World) (p : Nat) (d : Dk) (S : Nat → Prop) (h : IsDisk w p d S) (hd : d.fs.length ≤ 256) :
    Calls Tryz.prog 24 #[.pointer (some ⟨p, 0, none⟩)] w fun en w' => ∃ (v : Value) (L : List ByteArray), en = .returned v ∧ L.Perm (names d.fs) ∧ (∀ s ∈ L, s.size ≤ maxLen) ∧ w'.ownsRow w.heap.size 9 1 v L.length (L.map Value.string) ∧ Below w.heap.size w w' := by
  obtain ⟨mb, D, h1, h2, h3, h4, h5, h6, h7⟩ := id h
  have c0 : w.cell? ⟨p, 0, none⟩ = some (.map (some mb)) := h1.cell 0 rfl
  have hk := callsIn_wide.1 (Tryz.maps_Keys_66 (some mb) w)
  have hsz := h3.size
  have hso := callsIn_wide.1 (Tryz.slices_Sorted_keys_65_66 mb _ D HR w h2 (by rw [hsz]; simp only [maxLen]; omega) (by rw [hsz]; omega))
  have HK := Lib.hid hk
  have HSO := Lib.hid hso
  have H2 := Lib.hid h2
  have H3 := Lib.hid h3
  clear h h1 h2 h3 hk hso
  go_enter Tryz.func24, Tryz.ntmps24
  go_wp2_with fail
  refine HK.out.mono ?_
  rintro e w1 ⟨rfl, rfl⟩
  go_wp2_with fail
  refine HSO.out.mono ?_
  rintro e w1 ⟨v, ss, rfl, hperm, hown, _, hb⟩
  have HP := Lib.hid hperm
  have HO := Lib.hid hown
  have HB := Lib.hid hb
  clear hperm hown hb
  go_wp2
  go_ret
  obtain ⟨k1, k2⟩ := keys_names (p := p) H2.out H3.out HP.out
  refine ⟨v, _, rfl, k1, fun s hs => k2 s (k1.mem_iff.1 hs), ?_, ?_⟩
  · have := HO.out
    have hl : ((ss.mergeSort (fun x y => decide (x ≤ y))).map (fun l => (⟨l.toArray⟩ : ByteArray))).length = ss.length := by simp
    rw [hl, List.map_map]
    exact own_base this (by simp)
  · exact ((Below.refl _ w).alloc (Nat.le_refl _) _).trans (HB.out.mono (by simp))
end Go.Proofs.YtbbplhpkhholeaaGreatDoor
