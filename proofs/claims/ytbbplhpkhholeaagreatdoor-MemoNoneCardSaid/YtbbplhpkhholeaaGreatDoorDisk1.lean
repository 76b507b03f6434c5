/- A disk: plainly, and in memory; the walks of package disk's small calls. -/
import Derived.Test.YtbbplhpkhholeaaGreatDoorMaps
import Derived.Test.YtbbplhpkhholeaaGreatDoorOctet1
import Derived.StringKeys
import Derived.Carry
set_option linter.unusedVariables false
set_option linter.unusedSimpArgs false
set_option maxRecDepth 20000
namespace Go.Proofs.YtbbplhpkhholeaaGreatDoor
open Go.RowKit Go.Maps

/-! ### plainly -/
abbrev Fls := List (ByteArray × List Int)
def flook (fs : Fls) (s : ByteArray) : Option (List Int) := (fs.find? (fun p => decide (p.1 = s))).map (·.2)
def fput (fs : Fls) (s : ByteArray) (b : List Int) : Fls := (fs.filter (fun p => !decide (p.1 = s))) ++ [(s, b)]
def fdel (fs : Fls) (s : ByteArray) : Fls := fs.filter (fun p => !decide (p.1 = s))
theorem flook_none {fs : Fls} {s : ByteArray} : flook fs s = none ↔ ∀ p ∈ fs, p.1 ≠ s := by
  unfold flook
  rw [Option.map_eq_none_iff, List.find?_eq_none]
  simp
theorem flook_filter_other {fs : Fls} {s t : ByteArray} (h : t ≠ s) : flook (fs.filter (fun p => !decide (p.1 = s))) t = flook fs t := by
  unfold flook
  congr 1
  induction fs with
  | nil => rfl
  | cons p r ih =>
    by_cases e : p.1 = s
    · rw [List.filter_cons, if_neg (by simp [e]), List.find?_cons, ih]
      have : decide (p.1 = t) = false := by simp [e]; exact fun e => h e.symm
      rw [this]
    · rw [List.filter_cons, if_pos (by simp [e]), List.find?_cons, List.find?_cons, ih]
theorem flook_filter_same {fs : Fls} {s : ByteArray} : flook (fs.filter (fun p => !decide (p.1 = s))) s = none := by
  rw [flook_none]
  intro p hp
  simpa using (List.mem_filter.1 hp).2
theorem flook_append {fs gs : Fls} {s : ByteArray} : flook (fs ++ gs) s = (flook fs s).or (flook gs s) := by
  unfold flook
  rw [List.find?_append]
  cases List.find? (fun p => decide (p.1 = s)) fs <;> simp
theorem flook_put_same {fs : Fls} {s : ByteArray} {b : List Int} : flook (fput fs s b) s = some b := by
  unfold fput
  rw [flook_append, flook_filter_same]
  simp [flook]
theorem flook_put_other {fs : Fls} {s t : ByteArray} {b : List Int} (h : t ≠ s) : flook (fput fs s b) t = flook fs t := by
  unfold fput
  rw [flook_append, flook_filter_other h]
  have : flook [(s, b)] t = none := by rw [flook_none]; simp; exact fun e => h e.symm
  rw [this]; simp
theorem flook_del_same {fs : Fls} {s : ByteArray} : flook (fdel fs s) s = none := flook_filter_same
theorem flook_del_other {fs : Fls} {s t : ByteArray} (h : t ≠ s) : flook (fdel fs s) t = flook fs t := flook_filter_other h
def names (fs : Fls) : List ByteArray := fs.map (·.1)
theorem mem_names {fs : Fls} {s : ByteArray} : s ∈ names fs ↔ (flook fs s).isSome = true := by
  cases h : flook fs s with
  | none =>
    rw [flook_none] at h
    simp only [names, List.mem_map, Option.isSome_none, Bool.false_eq_true, iff_false]
    rintro ⟨p, hp, e⟩
    exact h p hp e
  | some b =>
    simp only [Option.isSome_some, iff_true]
    unfold flook at h
    obtain ⟨p, hp, _⟩ := Option.map_eq_some_iff.1 h
    exact List.mem_map.2 ⟨p, List.mem_of_find?_eq_some hp, by simpa using List.find?_some hp⟩
theorem names_del_nodup {fs : Fls} {s : ByteArray} (h : (names fs).Nodup) : (names (fdel fs s)).Nodup := by
  unfold names fdel
  exact List.Nodup.sublist (List.Sublist.map _ List.filter_sublist) h
theorem names_put_nodup {fs : Fls} {s : ByteArray} {b : List Int} (h : (names fs).Nodup) : (names (fput fs s b)).Nodup := by
  have h1 := names_del_nodup (s := s) h
  have e : names (fput fs s b) = names (fdel fs s) ++ [s] := by simp [names, fput, fdel]
  rw [e, List.nodup_append]
  refine ⟨h1, by simp, ?_⟩
  intro x hx y hy exy
  simp only [List.mem_singleton] at hy
  subst hy; subst exy
  have := (mem_names (fs := fdel fs x)).1 hx
  rw [flook_del_same] at this
  cases this
theorem length_del {fs : Fls} {s : ByteArray} (h : (names fs).Nodup) : (fdel fs s).length + (if (flook fs s).isSome then 1 else 0) = fs.length := by
  induction fs with
  | nil => rfl
  | cons p r ih =>
    simp only [names, List.map_cons, List.nodup_cons] at h
    have ih' := ih h.2
    by_cases e : p.1 = s
    · have hn : flook r s = none := by
        rw [flook_none]; intro q hq e2
        exact h.1 (List.mem_map.2 ⟨q, hq, by rw [e2, e]⟩)
      rw [hn] at ih'
      simp only [Option.isSome_none, Bool.false_eq_true, if_false, Nat.add_zero] at ih'
      have h1 : fdel (p :: r) s = fdel r s := by simp [fdel, List.filter_cons, e]
      have h2 : (flook (p :: r) s).isSome = true := by simp [flook, List.find?_cons, e]
      rw [h1, h2, if_pos rfl, ih']; rfl
    · have h1 : fdel (p :: r) s = p :: fdel r s := by simp [fdel, List.filter_cons, e]
      have h2 : flook (p :: r) s = flook r s := by simp [flook, List.find?_cons, e]
      rw [h1, h2, List.length_cons, List.length_cons]; omega
theorem length_put {fs : Fls} {s : ByteArray} {b : List Int} (h : (names fs).Nodup) : (fput fs s b).length = if (flook fs s).isSome then fs.length else fs.length + 1 := by
  have := length_del (s := s) h
  have e : (fput fs s b).length = (fdel fs s).length + 1 := by simp [fput, fdel]
  rw [e]
  split at this <;> rename_i hh
  · rw [if_pos hh]; exact this
  · rw [if_neg hh]; omega
/-- A disk. -/
structure Dk where
  fs : Fls
  writes : Int
  left : Int
  cut : Bool
/-- A raw write, if it is done. -/
def Dk.raw (d : Dk) : Option Dk := if d.cut then (if d.left = 0 then none else some { d with left := d.left - 1, writes := d.writes + 1 }) else some { d with writes := d.writes + 1 }

/-! ### in memory -/
def key (s : ByteArray) : Lit := .string s.data.toList
theorem key_inj {s t : ByteArray} (h : key s = key t) : s = t := by
  unfold key at h
  simp only [Lit.string.injEq] at h
  cases s; cases t
  simp only [ByteArray.mk.injEq]
  exact Array.toList_inj.1 h
theorem keyOf_str {s : ByteArray} (hs : s.size ≤ maxLen) : keyOf Tryz.prog 9 (.string s) = some (key s) := WideMaps.keyOf_string_mk Tryz.underlying9 hs
theorem keyed_str : Keyed Tryz.prog 9 := string_keyed Tryz.underlying9
/-- The files of a disk, in the map's datum D. -/
structure FilesIn (w : World) (D : DataW Value) (fs : Fls) : Prop where
  size : Maps.size D = fs.length
  nodup : (names fs).Nodup
  yes : ∀ s bs, flook fs s = some bs → Byts bs ∧ bs.length ≤ 4194304 ∧ ∃ v, look D (key s) = some v ∧ w.ownsRow 0 5 1 v bs.length (numsV .u8 bs)
  no : ∀ s, flook fs s = none → look D (key s) = none
  apart : ∀ s s' v v' g, look D (key s) = some v → look D (key s') = some v' → v.ownBlock = some g → v'.ownBlock = some g → s = s'
def IsDisk (w : World) (p : Nat) (d : Dk) (S : Nat → Prop) : Prop :=
  ∃ mb D, St w p 106 #[.map (some mb), .int .i64 d.writes, .int .i64 d.left, .bool d.cut] ∧ w.ownsMap Tryz.prog 9 HR mb d.fs.length D ∧ FilesIn w D d.fs ∧
    S p ∧ S mb ∧ (∀ s v g, look D (key s) = some v → v.ownBlock = some g → S g) ∧ (∀ k, S k → k < w.heap.size)
theorem FilesIn.fr {S T : Nat → Prop} {w w' : World} {D : DataW Value} {fs : Fls} (h : FilesIn w D fs) (hf : Fr T w w') (hS : ∀ s v g, look D (key s) = some v → v.ownBlock = some g → ¬ T g) : FilesIn w' D fs := by
  refine ⟨h.size, h.nodup, fun s bs hs => ?_, h.no, h.apart⟩
  obtain ⟨hb, hl, v, hv, hown⟩ := h.yes s bs hs
  refine ⟨hb, hl, v, hv, ?_⟩
  obtain ⟨h1, h2⟩ := hown
  refine ⟨h1, ?_⟩
  rcases h2 with h2 | ⟨g, cap, cur, rfl, hb0, hh, r⟩
  · exact .inl h2
  · exact .inr ⟨g, cap, cur, rfl, hb0, hf.heap hh (hS s _ g hv rfl), r⟩
theorem IsDisk.fr {S T : Nat → Prop} {w w' : World} {p : Nat} {d : Dk} (h : IsDisk w p d S) (hf : Fr T w w') (hS : ∀ k, S k → ¬ T k) : IsDisk w' p d S := by
  obtain ⟨mb, D, h1, h2, h3, h4, h5, h6, h7⟩ := h
  exact ⟨mb, D, h1.fr hf (hS p h4), ownsMap_fr h2 hf (hS mb h5), h3.fr (S := S) hf (fun s v g hv hg => hS g (h6 s v g hv hg)), h4, h5, h6, fun k hk => Nat.lt_of_lt_of_le (h7 k hk) hf.size⟩
theorem zeroB (w : World) : (zeroValue 25).run Tryz.prog w = .ok (.slice none 0 0) w := by kernel_rfl

/-! ### the walks -/
theorem writes_any (w : World) (p : Nat) (d : Dk) (S : Nat → Prop) (h : IsDisk w p d S) :
    Calls Tryz.prog 28 #[.pointer (some ⟨p, 0, none⟩)] w fun en w' => en = .returned (.int .i64 d.writes) ∧ w = w' := by
  obtain ⟨mb, D, h1, _⟩ := h
  have c1 := h1.cell 1 rfl
  clear h1
  go_enter Tryz.func28, Tryz.ntmps28
  go_wp2
  go_ret
  exact ⟨rfl, rfl⟩
/-- The disk's block turned, its files as they are. -/
theorem IsDisk.turn {w w' : World} {p : Nat} {d d' : Dk} {S : Nat → Prop} (h : IsDisk w p d S) (hf : Fr (fun k => k = p) w w') (hfs : d'.fs = d.fs)
    (hst : ∀ mb, St w p 106 #[.map (some mb), .int .i64 d.writes, .int .i64 d.left, .bool d.cut] → St w' p 106 #[.map (some mb), .int .i64 d'.writes, .int .i64 d'.left, .bool d'.cut]) : IsDisk w' p d' S := by
  obtain ⟨mb, D, h1, h2, h3, h4, h5, h6, h7⟩ := h
  have hp : ∀ g v s, look D (key s) = some v → v.ownBlock = some g → g ≠ p := by
    intro g v s hv hg e
    subst e
    cases hl : flook d.fs s with
    | none => have := h3.no s hl; rw [this] at hv; cases hv
    | some bs =>
      obtain ⟨_, _, v', hv', hown⟩ := h3.yes s bs hl
      rw [hv] at hv'
      cases hv'
      rcases hown.2 with ⟨rfl, _⟩ | ⟨g', cap, cur, rfl, _, hh, _⟩
      · cases hg
      · simp [Value.ownBlock] at hg
        subst hg
        unfold St at h1
        rw [hh] at h1
        injection h1 with h1
        injection h1 with _ ht
        exact absurd ht (by decide)
  refine ⟨mb, D, hst mb h1, by rw [hfs]; exact ownsMap_fr h2 hf (fun e => ownsMap_ne h2 h1 e.symm), by rw [hfs]; exact h3.fr (S := S) hf (fun s v g hv hg e => hp g v s hv hg e), h4, h5, h6, fun k hk => Nat.lt_of_lt_of_le (h7 k hk) hf.size⟩
theorem cut_any (w : World) (p : Nat) (d : Dk) (S : Nat → Prop) (n : Int) (h : IsDisk w p d S) (hn : 0 ≤ n) :
    Calls Tryz.prog 25 #[.pointer (some ⟨p, 0, none⟩), .int .i64 n] w fun en w' => en = .returned (.int .i64 0) ∧ IsDisk w' p { d with left := n, cut := true } S ∧ Fr S w w' := by
  obtain ⟨mb, D, h1, _⟩ := id h
  have hS : S p := by obtain ⟨_, _, _, _, _, h, _⟩ := h; exact h
  have c2 := h1.cell 2 rfl
  have c3 := h1.cell 3 rfl
  have f2 := h1.frozen 2
  have f3 := h1.frozen 3
  have H := Lib.hid h
  clear h1 h
  go_enter Tryz.func25, Tryz.ntmps25
  go_wp2
  go_ret
  have hf : Fr (fun k => k = p) w ((w.setCell ⟨p, 2, none⟩ (.int .i64 n)).setCell ⟨p, 3, none⟩ (.bool true)) := ((Fr.refl _ w).set _ _).set _ _
  exact ⟨rfl, H.out.turn hf rfl (fun mb h => by have := (h.set 2 (.int .i64 n)).set 3 (.bool true); simpa using this), hf.mono fun i _ e => e ▸ hS⟩
theorem mend_any (w : World) (p : Nat) (d : Dk) (S : Nat → Prop) (h : IsDisk w p d S) :
    Calls Tryz.prog 27 #[.pointer (some ⟨p, 0, none⟩)] w fun en w' => en = .returned (.int .i64 0) ∧ IsDisk w' p { d with left := 0, cut := false } S ∧ Fr S w w' := by
  obtain ⟨mb, D, h1, _⟩ := id h
  have hS : S p := by obtain ⟨_, _, _, _, _, h, _⟩ := h; exact h
  have c2 := h1.cell 2 rfl
  have c3 := h1.cell 3 rfl
  have f2 := h1.frozen 2
  have f3 := h1.frozen 3
  have H := Lib.hid h
  clear h1 h
  go_enter Tryz.func27, Tryz.ntmps27
  go_wp2
  go_ret
  have hf : Fr (fun k => k = p) w ((w.setCell ⟨p, 2, none⟩ (.int .i64 0)).setCell ⟨p, 3, none⟩ (.bool false)) := ((Fr.refl _ w).set _ _).set _ _
  exact ⟨rfl, H.out.turn hf rfl (fun mb h => by have := (h.set 2 (.int .i64 0)).set 3 (.bool false); simpa using this), hf.mono fun i _ e => e ▸ hS⟩
/-- disk.New. -/
theorem new_any (w : World) : Calls Tryz.prog 11 #[] w fun en w' => ∃ p S, en = .returned (.pointer (some ⟨p, 0, none⟩)) ∧ IsDisk w' p ⟨[], 0, 0, false⟩ S ∧ (∀ k, S k → w.heap.size ≤ k) ∧ Below w.heap.size w w' := by
  have hmm := @run_makeMap Tryz.prog
  go_enter Tryz.func11, Tryz.ntmps11
  go_wp2
  go_ret
  refine ⟨_, fun k => k = w.heap.size ∨ k = w.heap.size + 1, rfl, ⟨w.heap.size, .map [], ?_, ((World.ownsMap_made w Tryz.prog 9 HR).alloc _), ⟨rfl, by simp [names], fun s bs h => by simp [flook] at h, fun s _ => rfl, fun s s' v v' g h => by rw [look_empty] at h; cases h⟩, by simp, by simp, fun s v g h => (by rw [look_empty] at h; cases h), fun k hk => by simp; omega⟩, fun k hk => by omega, ?_⟩
  · have := St.new (w.alloc (.map #[] 0)) 106 #[.map (some w.heap.size), .int .i64 0, .int .i64 0, .bool false]
    simpa using this
  · exact ((Below.refl _ w).alloc (Nat.le_refl _) _).alloc (by simp) _
/-- (*Disk).Read. -/
theorem dread_any (w : World) (p : Nat) (d : Dk) (S : Nat → Prop) (s : ByteArray) (h : IsDisk w p d S) (hs : s.size ≤ maxLen) :
    Calls Tryz.prog 16 #[.pointer (some ⟨p, 0, none⟩), .string s] w fun en w' =>
      ∃ v, en = .returned (.tuple #[v, .int .i64 (if (flook d.fs s).isSome then 0 else 4)]) ∧ w'.ownsRow w.heap.size 5 1 v ((flook d.fs s).getD []).length (numsV .u8 ((flook d.fs s).getD [])) ∧ Below w.heap.size w w' := by
  obtain ⟨mb, D, h1, h2, h3, _⟩ := h
  have c0 := h1.cell 0 rfl
  have hlk := look_cases h2 keyed_str Tryz.underlying104 (zeroB w) (keyOf_str hs)
  clear h1 h2 hs
  cases hf : flook d.fs s with
  | none =>
    rw [h3.no s hf] at hlk
    simp only [Option.getD_none, Option.isSome_none] at hlk
    clear h3
    go_enter Tryz.func16, Tryz.ntmps16
    go_wp2
    go_ret2
    exact ⟨_, rfl, World.ownsRow_nil _ _ _ _, Below.refl _ _⟩
  | some bs =>
    obtain ⟨hb, hl, v, hv, hown⟩ := h3.yes s bs hf
    rw [hv] at hlk
    simp only [Option.getD_some, Option.isSome_some] at hlk
    have HO := Lib.hid hown
    clear h3 hown hv
    go_enter Tryz.func16, Tryz.ntmps16
    go_wp2_with fail
    refine (clone_any w v bs (SlN.of_own HO.out) (by omega)).mono ?_
    rintro e w1 ⟨v1, rfl, ho1, hb1⟩
    have HO1 := Lib.hid ho1
    have HB1 := Lib.hid hb1
    clear ho1 hb1
    go_wp2
    go_ret2
    exact ⟨v1, rfl, HO1.out, HB1.out⟩
end Go.Proofs.YtbbplhpkhholeaaGreatDoor
