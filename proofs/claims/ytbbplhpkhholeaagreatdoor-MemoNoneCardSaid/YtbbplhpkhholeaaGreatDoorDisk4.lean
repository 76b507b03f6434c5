/- Package disk: which names may be, Append, Remove, Truncate. -/
import Derived.Test.YtbbplhpkhholeaaGreatDoorDisk3
set_option linter.unusedVariables false
set_option linter.unusedSimpArgs false
set_option maxRecDepth 20000
namespace Go.Proofs.YtbbplhpkhholeaaGreatDoor
open Go.RowKit Go.Maps

/-- A string's byte, read. -/
theorem run_idx (w : World) (s : ByteArray) (k : Nat) (hk : k < s.size) : (Instr.index 9 (.string s) (.int .i64 k)).run Tryz.prog w = .ok (.int .u8 (rdI (strN s) k)) w := by
  rw [run_index_string w 9 s .i64 k Tryz.underlying9, dif_pos ⟨by omega, by omega⟩]
  have : (strN s)[k]'(by rw [strN_length]; exact hk) = ((s[k]'hk).toNat : Int) := by simp [strN]; rfl
  rw [rdI_lt (by rw [strN_length]; exact hk), this]
  rfl
theorem all_step {f : Int → Bool} {xs : List Int} {k : Nat} (hk : k < xs.length) : (xs.drop k).all f = (f (rdI xs k) && (xs.drop (k + 1)).all f) := by
  rw [List.drop_eq_getElem_cons hk, List.all_cons, rdI_lt hk]
theorem may_any (w : World) (s : ByteArray) (hs : s.size ≤ maxLen) :
    Calls Tryz.prog 50 #[.string s] w fun en w' => en = .returned (.bool (mayN s)) ∧ w = w' := by
  have hl := strN_length s
  have hb := strN_byts s
  have hs' : s.size ≤ 9223372036854775807 := hs
  clear hs
  go_enter Tryz.func50, Tryz.ntmps50
  by_cases h1 : 1 ≤ s.size
  · by_cases h2 : s.size ≤ 32
    · go_wp2
      go_loop [15] (fun t15 => ∃ (k : Nat), k ≤ s.size ∧ t15 = .int .i64 k ∧ Hid (((strN s).drop k).all mayC = (strN s).all mayC)) (fun i => s.size - (intOf i).toNat)
      case atStart => exact ⟨0, Nat.zero_le _, rfl, Lib.hid rfl⟩
      case round =>
        obtain ⟨k, hk, rfl, hh⟩ := hrel
        by_cases hlt : k < s.size
        · have hx := run_idx w s k hlt
          have hb' := hb.at_ k
          have hst := Lib.hid (hh.out.symm.trans (all_step (f := mayC) (hl ▸ hlt)))
          have no : mayC (rdI (strN s) k) = false → Ending.returned (.bool false) = .returned (.bool (mayN s)) := by
            intro hm
            have := hst.out
            rw [hm] at this
            simp [mayN, this]
          have NO := Lib.hid no
          clear no
          by_cases c1 : 97 ≤ rdI (strN s) k
          · by_cases c2 : rdI (strN s) k ≤ 122
            · go_wp2
              go_round
              case rel => exact ⟨k + 1, by omega, by go_num, Lib.hid (by rw [hst.out]; simp [mayC, c1, c2])⟩
              case measure => simp [intOf]; omega
            · have e1 : (rdI (strN s) k == 45) = false := by simp; omega
              have e2 : (rdI (strN s) k == 46) = false := by simp; omega
              have e3 : ¬ rdI (strN s) k ≤ 57 := by omega
              have e4 : 48 ≤ rdI (strN s) k := by omega
              go_wp2
              go_ret
              exact ⟨NO.out (by simp [mayC]; omega), rfl⟩
          · by_cases d1 : 48 ≤ rdI (strN s) k
            · have e1 : (rdI (strN s) k == 45) = false := by simp; omega
              have e2 : (rdI (strN s) k == 46) = false := by simp; omega
              by_cases d2 : rdI (strN s) k ≤ 57
              · go_wp2
                go_round
                case rel => exact ⟨k + 1, by omega, by go_num, Lib.hid (by rw [hst.out]; simp [mayC, d1, d2])⟩
                case measure => simp [intOf]; omega
              · go_wp2
                go_ret
                exact ⟨NO.out (by simp [mayC]; omega), rfl⟩
            · by_cases f1 : rdI (strN s) k = 45
              · have e1 : (rdI (strN s) k == 45) = true := by simp [f1]
                go_wp2
                go_round
                case rel => exact ⟨k + 1, by omega, by go_num, Lib.hid (by rw [hst.out]; simp [mayC, f1])⟩
                case measure => simp [intOf]; omega
              · have e1 : (rdI (strN s) k == 45) = false := by simp [f1]
                by_cases f2 : rdI (strN s) k = 46
                · have e2 : (rdI (strN s) k == 46) = true := by simp [f2]
                  go_wp2
                  go_round
                  case rel => exact ⟨k + 1, by omega, by go_num, Lib.hid (by rw [hst.out]; simp [mayC, f2])⟩
                  case measure => simp [intOf]; omega
                · have e2 : (rdI (strN s) k == 46) = false := by simp [f2]
                  go_wp2
                  go_ret
                  exact ⟨NO.out (by simp [mayC]; omega), rfl⟩
        · go_wp2
          go_ret
          have hkl : k = s.size := by omega
          have := hh.out
          rw [hkl, ← hl, List.drop_length] at this
          refine ⟨?_, rfl⟩
          simp [mayN, ← this, h1, h2]
    · go_wp2
      go_ret
      refine ⟨?_, rfl⟩
      simp [mayN, h2]
  · go_wp2
    go_ret
    refine ⟨?_, rfl⟩
    simp [mayN, h1]

/-! ### Append, plainly -/
/-- The pieces that Append writes. -/
def Dk.pieces (s : ByteArray) : Nat → Dk → List Int → Dk × Int
  | 0, d, bs => (d, 0)
  | n + 1, d, bs => if bs = [] then (d, 0) else
    match d.raw with
    | none => (d, 6)
    | some d1 => Dk.pieces s n { d1 with fs := fput d1.fs s ((flook d1.fs s).getD [] ++ bs.take 32) } (bs.drop 32)
def Dk.touch (d : Dk) (s : ByteArray) : Dk × Int :=
  match d.raw with
  | none => (d, 6)
  | some d1 => ({ d1 with fs := fput d1.fs s [] }, 0)
def Dk.append (d : Dk) (s : ByteArray) (bs : List Int) : Dk × Int :=
  if mayN s then
    if (flook d.fs s).isNone = true ∧ d.fs.length = 256 ∨ 4194304 < ((flook d.fs s).getD []).length + bs.length then (d, 3)
    else if bs = [] ∧ (flook d.fs s).isNone = true then d.touch s
    else Dk.pieces s bs.length d bs
  else (d, 2)
theorem raw_fs {d d1 : Dk} (h : d.raw = some d1) : d1.fs = d.fs := by
  unfold Dk.raw at h
  split at h
  · split at h
    · cases h
    · cases h; rfl
  · cases h; rfl
theorem pieces_fuel (s : ByteArray) : ∀ (n m : Nat) (d : Dk) (bs : List Int), bs.length ≤ n → bs.length ≤ m → Dk.pieces s n d bs = Dk.pieces s m d bs
  | 0, 0, _, _, _, _ => rfl
  | 0, m + 1, d, bs, h, _ => by
    have : bs = [] := List.eq_nil_of_length_eq_zero (by omega)
    simp [Dk.pieces, this]
  | n + 1, 0, d, bs, _, h => by
    have : bs = [] := List.eq_nil_of_length_eq_zero (by omega)
    simp [Dk.pieces, this]
  | n + 1, m + 1, d, bs, h, h' => by
    unfold Dk.pieces
    by_cases e : bs = []
    · rw [if_pos e, if_pos e]
    · rw [if_neg e, if_neg e]
      cases d.raw with
      | none => rfl
      | some d1 =>
        have hp : 0 < bs.length := List.length_pos_iff.2 e
        exact pieces_fuel s n m _ _ (by simp; omega) (by simp; omega)
end Go.Proofs.YtbbplhpkhholeaaGreatDoor
