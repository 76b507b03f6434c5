/- A memo: plainly and in memory; name, Standin, Len. -/
import Derived.Test.YtbbplhpkhholeaaGreatDoorRun2
import Derived.WalkArith
set_option linter.unusedVariables false
set_option linter.unusedSimpArgs false
set_option maxRecDepth 20000
namespace Go.Proofs.YtbbplhpkhholeaaGreatDoor
open Go.RowKit Go.Maps Go.Shelf Go.Sort

def klook (ps : List Pr) (k : Int) : Option Int := (ps.find? (fun p => decide (p.1 = k))).map (·.2)
structure Mm where
  known : List Pr
  parts : List (Int × List Int)
  last : Int
  dead : Bool
def ukey (k : Int) : Lit := .int .u64 k
theorem ukey_inj {a b : Int} (h : ukey a = ukey b) : a = b := by
  unfold ukey at h
  simpa using h
theorem keyOf_u {k : Int} (h : U64 k) : keyOf Tryz.prog 35 (.int .u64 k) = some (ukey k) := Maps.keyOf_int_mk Tryz.underlying35 (WalkArith.wf_u64 ⟨h.1, by have := h.2; omega⟩)
theorem keyed_u : Keyed Tryz.prog 35 := Maps.int_keyed Tryz.underlying35
structure KnownIn (D : DataW Value) (ps : List Pr) : Prop where
  size : Maps.size D = ps.length
  nodup : (keysP ps).Nodup
  at_ : ∀ k, U64 k → look D (ukey k) = (klook ps k).map (Value.int .u64)
def partC (n : Int) (v : Value) : List Value := [.int .i64 n, v]
def partsC : List (Int × List Int) → List Value → List Value
  | p :: ps, v :: vs => .int .i64 p.1 :: v :: partsC ps vs
  | _, _ => []
def IsParts (w : World) (vp : Value) (parts : List (Int × List Int)) (S : Nat → Prop) : Prop :=
  ∃ vs : List Value, vs.length = parts.length ∧ w.ownsRow 0 109 2 vp parts.length (partsC parts vs) ∧ (∀ g, vp.ownBlock = some g → S g) ∧
    ∀ (i : Nat) (n : Int) (b : List Int) (v : Value), parts[i]? = some (n, b) → vs[i]? = some v → SlN w .u8 v b ∧ Byts b ∧ (∀ g, v.ownBlock = some g → S g)
def IsMemo (w : World) (mp dp jp : Nat) (file : ByteArray) (m : Mm) (S : Nat → Prop) : Prop :=
  ∃ mb D vp Sp, St w mp 92 #[.pointer (some ⟨dp, 0, none⟩), .pointer (some ⟨jp, 0, none⟩), .string file, .map (some mb), vp, .int .i64 m.last, .bool m.dead] ∧ w.ownsMap Tryz.prog 35 HR mb m.known.length D ∧ KnownIn D m.known ∧
    OkP m.known ∧ IsParts w vp m.parts Sp ∧ (∀ k, Sp k → S k ∧ k ≠ mp ∧ k ≠ mb) ∧ S mp ∧ S mb ∧ (∀ k, S k → k < w.heap.size)
theorem IsParts.fr {S T : Nat → Prop} {w w' : World} {vp : Value} {parts : List (Int × List Int)} (h : IsParts w vp parts S) (hf : Fr T w w') (hS : ∀ k, S k → ¬ T k) : IsParts w' vp parts S := by
  obtain ⟨vs, h1, h2, h3, h4⟩ := h
  refine ⟨vs, h1, own_fr h2 hf (fun g hg => hS g (h3 g hg)), h3, fun i n b v hp hv => ?_⟩
  obtain ⟨k1, k2, k3⟩ := h4 i n b v hp hv
  exact ⟨k1.fr hf (fun g _ hs e => hS g (k3 g e) hs), k2, k3⟩
theorem IsMemo.fr {S T : Nat → Prop} {w w' : World} {mp dp jp : Nat} {file : ByteArray} {m : Mm} (h : IsMemo w mp dp jp file m S) (hf : Fr T w w') (hS : ∀ k, S k → ¬ T k) : IsMemo w' mp dp jp file m S := by
  obtain ⟨mb, D, vp, Sp, h1, h2, h3, h4, h5, h5', h6, h7, h8⟩ := h
  exact ⟨mb, D, vp, Sp, h1.fr hf (hS mp h6), ownsMap_fr h2 hf (hS mb h7), h3, h4, h5.fr hf (fun k hk => hS k (h5' k hk).1), h5', h6, h7, fun k hk => Nat.lt_of_lt_of_le (h8 k hk) hf.size⟩
theorem zeroU (w : World) : (zeroValue 35).run Tryz.prog w = .ok (.int .u64 0) w := by kernel_rfl
/-- Which numbers strconv.Itoa writes: the small ones, and all where its table lies. -/
def NumOk (w : World) (n : Nat) : Prop := n < 100 ∨ (n ≤ 4294967296 ∧ Lib.TabIs Tryz.prog w "internal/strconv.uint64pow10" .u64 Lib.pow10Tab)
def itoaB (n : Nat) : ByteArray := ⟨(Lib.decDigits n).toArray⟩
theorem itoa_any (w : World) (n : Nat) (h : NumOk w n) : Calls Tryz.prog 107 #[.int .i64 n] w fun e w' => e = .returned (.string (itoaB n)) ∧ Fr (fun _ => False) w w' := by
  rcases h with h | ⟨h, ht⟩
  · refine (Tryz.strconv_Itoa_small n h w).mono ?_
    rintro e w' ⟨rfl, rfl⟩
    exact ⟨rfl, Fr.refl _ _⟩
  · refine (Tryz.strconv_Itoa n (by omega) (by omega) w ht).mono ?_
    rintro e w' ⟨rfl, k, os, rfl⟩
    refine ⟨by simp [Lib.itoa, itoaB], ⟨rfl, rfl, rfl, by simp, fun i hi _ => ?_⟩⟩
    rw [heap_grow_old _ _ (by simpa using hi)]
    rfl
def dashB : ByteArray := ⟨#[45]⟩
def nameN (file : ByteArray) (n : Nat) : ByteArray := file ++ dashB ++ itoaB n
theorem itoaB_size (n : Nat) : (itoaB n).size ≤ n + 1 := by
  have h : ∀ u, Lib.nDigits u ≤ u + 1 := by
    intro u
    induction u using Nat.strongRecOn with
    | ind u ih =>
      unfold Lib.nDigits
      split
      · omega
      · have := ih (u / 10) (by omega)
        omega
  have e : (itoaB n).size = (Lib.decDigits n).length := by simp [itoaB, ByteArray.size]
  rw [e, Lib.decDigits_length]
  exact h n
theorem name_any (w : World) (mp dp jp : Nat) (file : ByteArray) (m : Mm) (S : Nat → Prop) (n : Nat) (h : IsMemo w mp dp jp file m S) (hn : NumOk w n) (hf : file.size ≤ 1000) :
    Calls Tryz.prog 94 #[.pointer (some ⟨mp, 0, none⟩), .int .i64 n] w fun e w' => e = .returned (.string (nameN file n)) ∧ Fr (fun _ => False) w w' := by
  obtain ⟨mb, D, vp, Sp, h1, _⟩ := h
  have c2 : w.cell? ⟨mp, 2, none⟩ = some (.string file) := h1.cell 2 rfl
  have hi := itoa_any w.drew n hn
  have hd := itoaB_size n
  obtain ⟨t, ht⟩ : ∃ t, itoaB n = t := ⟨_, rfl⟩
  have hnm : nameN file n = file ++ ⟨#[45]⟩ ++ t := by rw [← ht]; rfl
  rw [hnm]
  rw [ht] at hi hd
  have hd1 : file.size + 1 ≤ 9223372036854775807 := by omega
  have hd2 : file.size + 1 + t.size ≤ 9223372036854775807 := by
    rcases hn with h | ⟨h, _⟩
    · omega
    · omega
  have hq1 : (9223372036854775807 < file.size + (⟨#[45]⟩ : ByteArray).size) = False := by
    have e : (⟨#[45]⟩ : ByteArray).size = 1 := rfl
    rw [e]
    simp
    omega
  have hq2 : (9223372036854775807 < (file ++ ⟨#[45]⟩).size + t.size) = False := by
    have e : (⟨#[45]⟩ : ByteArray).size = 1 := rfl
    rw [ByteArray.size_append, e]
    simp
    omega
  have hr1 : ∀ w, (Op.stringOp .add file ⟨#[45]⟩).run Tryz.prog w = .ok (.string (file ++ ⟨#[45]⟩)) w := fun w => run_string_add_sum w _ _ (by
    have e : (⟨#[45]⟩ : ByteArray).size = 1 := rfl
    rw [e]
    omega)
  have hr2 : ∀ w, (Op.stringOp .add (file ++ ⟨#[45]⟩) t).run Tryz.prog w = .ok (.string (file ++ ⟨#[45]⟩ ++ t)) w := fun w => run_string_add_sum w _ _ (by
    have e : (⟨#[45]⟩ : ByteArray).size = 1 := rfl
    rw [ByteArray.size_append, e]
    omega)
  clear hd hnm ht hf
  have HI := Lib.hid hi
  clear h1 hi hn
  go_enter Tryz.func94, Tryz.ntmps94
  go_wp2_with fail
  go_region_held3 (fun w' => w'.cell? ⟨mp, 2, none⟩ = some (.string file)) (go_keep)
    (first | (go_at_call 107; refine HI.out.mono ?_; rintro e w3 ⟨rfl, hf3⟩; have k2 := hf3.cell c2 (fun h => h); have HF3 := Lib.hid hf3; clear hf3))
  all_goals
    go_wp2
    go_ret
    exact ⟨rfl, ((Fr.refl _ w).drew).trans' HF3.out⟩
theorem mlen_any (w : World) (mp dp jp : Nat) (file : ByteArray) (m : Mm) (S : Nat → Prop) (h : IsMemo w mp dp jp file m S) :
    Calls Tryz.prog 32 #[.pointer (some ⟨mp, 0, none⟩)] w fun e w' => e = .returned (.int .i64 m.known.length) ∧ w = w' := by
  obtain ⟨mb, D, vp, Sp, h1, h2, h3, _⟩ := h
  have c3 : w.cell? ⟨mp, 3, none⟩ = some (.map (some mb)) := h1.cell 3 rfl
  have hlen : ∀ ty, (Builtin.len_ #[88] ty #[.map (some mb)]).run Tryz.prog w = .ok (.int .i64 m.known.length) w := fun ty => by
    rw [h2.len Tryz.underlying88 ty, h3.size]
  clear h1 h2 h3
  go_enter Tryz.func32, Tryz.ntmps32
  go_wp2
  go_ret
  exact ⟨rfl, rfl⟩
theorem standin_any (w : World) (mp dp jp : Nat) (file : ByteArray) (m : Mm) (S : Nat → Prop) (k : Int) (hk : U64 k) (h : IsMemo w mp dp jp file m S) :
    Calls Tryz.prog 29 #[.pointer (some ⟨mp, 0, none⟩), .int .u64 k] w fun e w' => e = .returned (.tuple #[.int .u64 ((klook m.known k).getD 0), .bool (klook m.known k).isSome]) ∧ w = w' := by
  obtain ⟨mb, D, vp, Sp, h1, h2, h3, _⟩ := h
  have c3 : w.cell? ⟨mp, 3, none⟩ = some (.map (some mb)) := h1.cell 3 rfl
  have hlk := look_cases h2 keyed_u Tryz.underlying88 (zeroU w) (keyOf_u hk)
  rw [h3.at_ k hk] at hlk
  clear h1 h2 h3 hk
  cases hl : klook m.known k with
  | none =>
    rw [hl] at hlk
    simp only [Option.map_none, Option.getD_none, Option.isSome_none] at hlk
    go_enter Tryz.func29, Tryz.ntmps29
    go_wp2
    go_ret2
    exact ⟨rfl, rfl⟩
  | some x =>
    rw [hl] at hlk
    simp only [Option.map_some, Option.getD_some, Option.isSome_some] at hlk
    go_enter Tryz.func29, Tryz.ntmps29
    go_wp2
    go_ret2
    exact ⟨rfl, rfl⟩
end Go.Proofs.YtbbplhpkhholeaaGreatDoor
