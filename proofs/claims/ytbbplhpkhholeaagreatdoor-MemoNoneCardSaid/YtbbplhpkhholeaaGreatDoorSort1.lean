/- slices.SortFunc at pairs, by run.byFrom; SortedFunc. -/
import Derived.Test.YtbbplhpkhholeaaGreatDoorIter2
import Derived.Test.YtbbplhpkhholeaaGreatDoorSorts
import Derived.Shelf.SlSortCmp.NoneTotal
import Derived.Sort.OwnSorted
set_option linter.unusedVariables false
set_option linter.unusedSimpArgs false
set_option maxRecDepth 20000
namespace Go.Proofs.YtbbplhpkhholeaaGreatDoor
open Go.RowKit Go.Maps Go.Shelf Go.Sort

def cmpP (x y : Pr) : Int := Lib.compareInt x.1 y.1
theorem ltP (x y : Pr) : ltOf cmpP x y = decide (x.1 < y.1) := by
  unfold ltOf cmpP Lib.compareInt
  by_cases h1 : x.1 < y.1
  · simp [h1]
  · by_cases h2 : y.1 < x.1 <;> simp [h1, h2]
theorem swoP : SWO (ltOf cmpP) where
  irrefl x := by rw [ltP]; simp
  trans x y z h1 h2 := by rw [ltP] at *; simp at *; omega
  ntrans x y z h1 h2 := by rw [ltP] at *; simp at *; omega
theorem isNaN_any (w : World) (x : Int) : Calls Tryz.prog 119 #[.int .u64 x] w fun e w' => e = .returned (.bool false) ∧ w = w' := by
  go_enter Tryz.func119, Tryz.ntmps119
  go_wp2
  go_ret
  exact ⟨by simp, rfl⟩
theorem compare_any (w : World) (x y : Int) : Calls Tryz.prog 77 #[.int .u64 x, .int .u64 y] w fun e w' => e = .returned (.int .i64 (Lib.compareInt x y)) ∧ w = w' := by
  have h1 := fun w => isNaN_any w x
  have h2 := fun w => isNaN_any w y
  have H1 := Lib.hid h1
  have H2 := Lib.hid h2
  clear h1 h2
  by_cases hlt : x < y
  · have hc : Lib.compareInt x y = -1 := by simp [Lib.compareInt, hlt]
    rw [hc]
    clear hc
    go_enter Tryz.func77, Tryz.ntmps77
    go_wp2_with fail
    refine (H1.out _).mono ?_
    rintro e w1 ⟨rfl, rfl⟩
    go_wp2_with fail
    refine (H2.out _).mono ?_
    rintro e w1 ⟨rfl, rfl⟩
    go_wp2
    go_ret
    exact ⟨rfl, rfl⟩
  · by_cases hgt : y < x
    · have hc : Lib.compareInt x y = 1 := by simp [Lib.compareInt, hlt, hgt]
      rw [hc]
      clear hc
      go_enter Tryz.func77, Tryz.ntmps77
      go_wp2_with fail
      refine (H1.out _).mono ?_
      rintro e w1 ⟨rfl, rfl⟩
      go_wp2_with fail
      refine (H2.out _).mono ?_
      rintro e w1 ⟨rfl, rfl⟩
      go_wp2
      go_ret
      exact ⟨rfl, rfl⟩
    · have hc : Lib.compareInt x y = 0 := by simp [Lib.compareInt, hlt, hgt]
      rw [hc]
      clear hc
      go_enter Tryz.func77, Tryz.ntmps77
      go_wp2_with fail
      refine (H1.out _).mono ?_
      rintro e w1 ⟨rfl, rfl⟩
      go_wp2_with fail
      refine (H2.out _).mono ?_
      rintro e w1 ⟨rfl, rfl⟩
      go_wp2
      go_ret
      exact ⟨rfl, rfl⟩
/-- run.byFrom: two blocks are laid. -/
theorem byFrom_any (w : World) (x y : Pr) : Calls Tryz.prog 38 #[.agg #[.int .u64 x.1, .int .u64 x.2], .agg #[.int .u64 y.1, .int .u64 y.2]] w fun e w' => e = .returned (.int .i64 (cmpP x y)) ∧ ∃ q os', w' = grow (w.drewN q) os' := by
  have hc := fun w' => compare_any w' x.1 y.1
  have HC := Lib.hid hc
  clear hc
  unfold cmpP
  generalize Lib.compareInt x.1 y.1 = r at HC ⊢
  go_enter Tryz.func38, Tryz.ntmps38
  go_wp2_with fail
  refine (HC.out _).mono ?_
  rintro e w1 ⟨rfl, rfl⟩
  go_wp2
  go_ret
  exact ⟨rfl, 0, _, by rw [alloc_eq_grow, alloc_eq_grow, grow_grow]; rfl⟩
def encP (x : Pr) : List Value := [.int .u64 x.1, .int .u64 x.2]
theorem byFrom_lays (blk off size : Nat) (w : World) : CmpLays Tryz.prog 38 #[] encP 2 cmpP blk off size w :=
  fun _ _ _ _ x y => byFrom_any _ x y
theorem flatK_prs (ps : List Pr) : (flatK encP 2 ps.toArray).toList = prsV ps := by
  apply List.ext_getElem?
  intro t
  have hsz : (flatK encP 2 ps.toArray).size = ps.length * 2 := by simp
  by_cases ht : t < ps.length * 2
  · have hk : t / 2 < ps.length := by omega
    obtain ⟨h1, h2⟩ := prsV_at ps (t / 2) ps[t / 2] (List.getElem?_eq_getElem hk)
    rw [Array.getElem?_toList]
    have e1 : (flatK encP 2 ps.toArray)[t]? = some ((encP ps.toArray[t / 2]!)[t % 2]!) := by
      rw [Array.getElem?_eq_getElem (by rw [hsz]; exact ht), ← getElem!_pos, get_flatK _ _ _ _ (by simpa using ht)]
    have e2 : ps.toArray[t / 2]! = ps[t / 2] := by simp [hk]
    rw [e1, e2]
    rcases Nat.mod_two_eq_zero_or_one t with h | h
    · have : t = t / 2 * 2 := by omega
      rw [h]
      conv => rhs; rw [this]
      rw [h1]
      rfl
    · have : t = t / 2 * 2 + 1 := by omega
      rw [h]
      conv => rhs; rw [this]
      rw [h2]
      rfl
  · rw [List.getElem?_eq_none (by rw [Array.length_toList, hsz]; omega), List.getElem?_eq_none (by rw [prsV_length]; omega)]
end Go.Proofs.YtbbplhpkhholeaaGreatDoor
