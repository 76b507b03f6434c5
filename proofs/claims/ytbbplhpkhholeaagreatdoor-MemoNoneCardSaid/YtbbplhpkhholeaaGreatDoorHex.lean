/- Sixteen digits. -/
import Derived.Test.YtbbplhpkhholeaaGreatDoorOctet1
set_option linter.unusedVariables false
set_option linter.unusedSimpArgs false
namespace Go.Proofs.YtbbplhpkhholeaaGreatDoor
open Go.RowKit
def hexd (d : Int) : Int := if d < 10 then 48 + d else 87 + d
def hexN (x : Int) : List Int := (List.range 16).map fun j => hexd (x / 16 ^ (15 - j) % 16)
def hexS (x : Int) : ByteArray := strOfNums (hexN x)
theorem hexN_len (x : Int) : (hexN x).length = 16 := by simp [hexN]
theorem hexN_at (x : Int) {j : Nat} (h : j < 16) : rdI (hexN x) j = hexd (x / 16 ^ (15 - j) % 16) := by
  rw [rdI_lt (by simp [hexN]; omega)]; simp [hexN]
theorem hexd_at (d : Int) (h0 : 0 ≤ d) (h1 : d < 16) (w : World) : (Instr.index 9 (.string ⟨#[48, 49, 50, 51, 52, 53, 54, 55, 56, 57, 97, 98, 99, 100, 101, 102]⟩) (.int .u64 d)).run Tryz.prog w = .ok (.int .u8 (hexd d)) w := by
  obtain rfl | rfl | rfl | rfl | rfl | rfl | rfl | rfl | rfl | rfl | rfl | rfl | rfl | rfl | rfl | rfl : d = 0 ∨ d = 1 ∨ d = 2 ∨ d = 3 ∨ d = 4 ∨ d = 5 ∨ d = 6 ∨ d = 7 ∨ d = 8 ∨ d = 9 ∨ d = 10 ∨ d = 11 ∨ d = 12 ∨ d = 13 ∨ d = 14 ∨ d = 15 := by omega
  all_goals kernel_rfl
set_option maxHeartbeats 400000 in
theorem hex_any (w : World) (x : Int) (hx : U64 x) :
    Calls Tryz.prog 40 #[.int .u64 x] w fun en w' => en = .returned (.string (hexS x)) ∧ Below w.heap.size w w' := by
  have h0 := hx.lo
  go_enter Tryz.func40, Tryz.ntmps40
  go_wp2
  go_loopw [4, 0] (fun t4 t0 wr => ∃ (k : Nat) (y : Int) (ds : List Int), k ≤ 16 ∧ t4 = .int .i64 (15 - (k : Int)) ∧ t0 = .int .u64 y ∧ 0 ≤ y ∧ U64 y ∧ Hid (y = x / 16 ^ k) ∧ Hid (ds.length = 16) ∧ Hid (∀ j, 16 - k ≤ j → j < 16 → rdI ds j = rdI (hexN x) j) ∧ Hid (Blk wr w.heap.size .u8 150 ds) ∧ Hid (Below w.heap.size w wr)) (fun t4 _ _ => (intOf t4 + 1).toNat)
  case atStart => exact ⟨0, x, List.replicate 16 0, by omega, rfl, rfl, h0, hx, Lib.hid (by simp), Lib.hid (by simp), Lib.hid (fun j h1 h2 => by omega), Lib.hid (Blk.new w .u8 150 (List.replicate 16 0)), Lib.hid ((Below.refl _ _).alloc (Nat.le_refl _) _)⟩
  case round =>
    obtain ⟨k, y, ds, hk, rfl, rfl, hy0, hyU, hy, hl, hd, hB, hb⟩ := hrel
    by_cases hc : k < 16
    · have hcell := hB.out.cell (j := 15 - k) (by rw [hl.out]; omega)
      have hfr := hB.out.frozen (15 - k)
      have hix := hexd_at (y % 16) (by omega) (by omega)
      have h15 := and15 hyU
      go_wp2
      go_roundw
      case rel =>
        refine ⟨k + 1, y / 16, ds.set (15 - k) (hexd (y % 16)), by omega, by congr 1; omega, rfl, by omega, hyU.div (by decide), Lib.hid ?_, Lib.hid (by simp [hl.out]), Lib.hid ?_, Lib.hid ?_, Lib.hid ?_⟩
        · rw [hy.out, Int.pow_succ, Int.ediv_ediv_of_nonneg (Int.le_of_lt (Int.pow_pos (by decide)))]
        · intro j h1 h2
          rw [rdI_set (by rw [hl.out]; omega)]
          split
          · rename_i e
            rw [hexN_at x h2, ← e, show 15 - (15 - k) = k from by omega, hy.out]
          · exact hd.out j (by omega) h2
        · exact hB.out.set (15 - k) _
        · exact hb.out.setCell (Nat.le_refl _) _
      case measure => simp [intOf]; omega
    · have hds : ds = hexN x := list_ext_rdI (by rw [hl.out, hexN_len]) (fun j hj => hd.out j (by omega) (by rw [hl.out] at hj; exact hj))
      have hcv := run_convert_bytes_arg (P := Tryz.prog) wr 25 5 Tryz.underlying25 Tryz.underlying5 w.heap.size 0 16 16 ds hl.out (fun i hi => by rw [Nat.zero_add]; exact hB.out.cell (by rw [hl.out]; exact hi)) 9 Tryz.underlying9
      obtain rfl : k = 16 := by omega
      go_wp2
      go_ret
      exact ⟨by first | rfl | (rw [hds]; rfl), hb.out⟩
end Go.Proofs.YtbbplhpkhholeaaGreatDoor
