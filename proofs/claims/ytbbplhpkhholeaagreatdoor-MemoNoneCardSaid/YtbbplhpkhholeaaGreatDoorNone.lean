/- The memo's calls at nil; the law MemoNone. -/
import Derived.Test.YtbbplhpkhholeaaGreatDoorWakes
set_option linter.unusedVariables false
set_option linter.unusedSimpArgs false
set_option maxRecDepth 20000
namespace Go.Proofs.YtbbplhpkhholeaaGreatDoor
open Go.RowKit Go.Maps Go.Shelf Go.Sort

attribute [local go_sem] Oper.semAt_some

theorem standin_nil (w : World) (k : Int) : Calls Tryz.prog 29 #[.pointer none, .int .u64 k] w fun e w' => e = .returned (.tuple #[.int .u64 0, .bool false]) ∧ w = w' := by
  go_enter Tryz.func29, Tryz.ntmps29
  go_wp2
  go_ret2
  exact ⟨rfl, rfl⟩
theorem mlen_nil (w : World) : Calls Tryz.prog 32 #[.pointer none] w fun e w' => e = .returned (.int .i64 0) ∧ w = w' := by
  go_enter Tryz.func32, Tryz.ntmps32
  go_wp2
  go_ret
  exact ⟨rfl, rfl⟩
theorem runs_nil (w : World) : Calls Tryz.prog 15 #[.pointer none] w fun e w' => e = .returned (.slice none 0 0) ∧ w = w' := by
  go_enter Tryz.func15, Tryz.ntmps15
  go_wp2
  go_ret
  exact ⟨rfl, rfl⟩
theorem names_nil (w : World) : Calls Tryz.prog 24 #[.pointer none] w fun e w' => e = .returned (.slice none 0 0) ∧ w = w' := by
  go_enter Tryz.func24, Tryz.ntmps24
  go_wp2
  go_ret
  exact ⟨rfl, rfl⟩
theorem keys_nil (w : World) : Calls Tryz.prog 33 #[.pointer none] w fun e w' => e = .returned (.slice none 0 0) ∧ w = w' := by
  have hn := names_nil w
  have HN := Lib.hid hn
  clear hn
  go_enter Tryz.func33, Tryz.ntmps33
  go_wp2_with fail
  refine HN.out.mono ?_
  rintro e w1 ⟨rfl, rfl⟩
  go_wp2
  go_loopw [13, 3] (fun t13 t3 wr => t13 = .int .i64 0 ∧ t3 = .slice none 0 0 ∧ w = wr) (fun _ _ _ => 0)
  case atStart => exact ⟨rfl, rfl, rfl⟩
  case round =>
    obtain ⟨rfl, rfl, rfl⟩ := hrel
    go_wp2
    go_ret
    exact ⟨rfl, rfl⟩
theorem add_nil (w : World) (v : Value) : Calls Tryz.prog 12 #[.pointer none, v] w fun e w' => e = .returned (.int .i64 1) ∧ w = w' := by
  go_enter Tryz.func12, Tryz.ntmps12
  go_wp2
  go_ret
  exact ⟨rfl, rfl⟩
theorem open_nil (w : World) (k : Int) : Calls Tryz.prog 10 #[.pointer none, .int .u64 k] w fun e w' => e = .returned (.tuple #[.pointer none, .int .i64 1]) ∧ w = w' := by
  go_enter Tryz.func10, Tryz.ntmps10
  go_wp2
  go_ret2
  exact ⟨rfl, rfl⟩
theorem open_zero (w : World) (p : Nat) : Calls Tryz.prog 10 #[.pointer (some ⟨p, 0, none⟩), .int .u64 0] w fun e w' => e = .returned (.tuple #[.pointer none, .int .i64 2]) ∧ w = w' := by
  go_enter Tryz.func10, Tryz.ntmps10
  go_wp2
  go_ret2
  exact ⟨rfl, rfl⟩
theorem each_any (w : World) (v : Option Addr) : Calls Tryz.prog 30 #[.pointer v] w fun en w' => en = .returned (.func (.func 67) #[] #[.pointer (some ⟨w.heap.size, 0, none⟩)]) ∧ w.alloc (.cells #[.pointer v] 29) = w' := by
  go_enter Tryz.func30, Tryz.ntmps30
  go_wp2
  go_ret
  exact ⟨rfl, rfl⟩
theorem each_nil (n : Nat) (w : World) (bx : Nat) (encs : Unit → Array Value) (Kp : World → World → Prop) (Sp : List Unit → Prop) (N : Nat) (hbx : w.cell? ⟨bx, 0, none⟩ = some (.pointer none)) :
    SeqStopsK Fence.wide n Tryz.prog 67 #[.pointer (some ⟨bx, 0, none⟩)] encs Kp (fun ys => ys = []) Sp N w := fun l J Jx W hW _ _ _ hJ0 => by
  have hfr : Fr (fun _ => False) w W := Fr.same' hW
  have hbx' := hfr.cell hbx (fun h => h)
  have HJ := Lib.hid hJ0
  clear hfr hJ0
  refine callsIn_wide.2 ?_
  go_enter Tryz.func67, Tryz.ntmps67
  go_wp2
  refine bodyPost_ret (results_none rfl _ _ _) rfl ?_
  exact ⟨⟨_, rfl⟩, .inl ⟨[], rfl, HJ.out⟩⟩
theorem sources_nil (w : World) (k : Int) : Calls Tryz.prog 31 #[.pointer none, .int .u64 k] w fun e w' => e = .returned (.slice none 0 0) ∧ Fr (fun _ => False) w w' := by
  refine (callsIn_wide (n := 9)).1 ?_
  refine callsIn_of_wp_marks Tryz.func31 rfl trivial ?_ rfl
  simp only [Tryz.ntmps31, List.size_toArray, List.length_cons, List.length_nil, Nat.reduceAdd, Nat.reduceSub, Array.replicate_succ, Array.replicate_zero, List.push_toArray, List.append_toArray, List.nil_append, List.cons_append]
  obtain ⟨W1, hW1⟩ : ∃ W1, (w.alloc (.cells #[.int .u64 k] 35)).alloc (.cells #[.slice none 0 0] 75) = W1 := ⟨_, rfl⟩
  have hF1 : Fr (fun _ => False) w W1 := by rw [← hW1]; exact ((Fr.refl _ _).alloc _).alloc _
  have c1 : W1.cell? ⟨w.heap.size + 1, 0, none⟩ = some (.slice none 0 0) := by
    rw [← hW1]
    exact World.cell?_alloc_at _ _ _ _ (by simp only [World.size_alloc])
  have he := each_any W1 none
  have HE := Lib.hid he
  have HF1 := Lib.hid hF1
  clear he hF1
  gi_wp2_with fail
  clear hW1
  refine ⟨trivial, callsIn_wide.2 (HE.out.mono ?_)⟩
  rintro e w2 ⟨rfl, hw2⟩
  have hF2 : Fr (fun _ => False) W1 w2 := by rw [← hw2]; exact (Fr.refl _ _).alloc _
  have b2 : w2.cell? ⟨W1.heap.size, 0, none⟩ = some (.pointer none) := by rw [← hw2]; simp
  have c2 := hF2.cell c1 (fun h => h)
  have HF2 := Lib.hid hF2
  clear hw2 hF2 c1
  gi_wp2_with fail
  refine wpIn_rangeFunc_ownH (F := Fence.wide) rfl (by omega) (gf := 67) (lb := #[.pointer (some ⟨W1.heap.size, 0, none⟩)]) rfl trivial (fun _ _ => rfl)
    (each_nil (9 - 1) w2 W1.heap.size (fun _ => #[.agg #[.int .u64 0, .int .u64 0]]) (fun _ _ => True) (fun _ => True) 0 b2) (fun _ _ => trivial) (fun _ _ _ _ _ _ _ _ => trivial) (Below.refl _ _) (fun _ => rfl)
    (fun pre W => Fr (fun _ => False) w2 W) (fun _ _ _ => False)
    (fun s A B row hs hg hr => hs.grown hg (fun k e hk => by have := (hr k e).1; omega)) (fun _ _ _ _ _ hs _ _ => hs) (Fr.refl _ _) (fun _ _ _ => True) (fun _ _ _ _ _ _ _ _ _ => trivial) ?assign ?body ?done ?stop
  case assign =>
    intro l pre x W K hi hK
    gi_wp2
    exact hK _ _ ((KeepsOthers.alloc _ _).from _) trivial (hi.alloc _) trivial
  case body =>
    intro l pre x a' W _ _ _ _ h
    exact absurd h (Nat.not_lt_zero _)
  case stop =>
    rintro D c pre W _ _ h _
    exact h.elim
  case done =>
    rintro D xs W hD rfl hI hK
    have c3 := hI.cell c2 (fun h => h)
    gi_wp2
    have fD := Fr.of_grown (grownBy_putObj' W D (.deferred none))
    refine ⟨by simp, .inl ⟨_, _, rfl, run_takeDeferred hK, ?_⟩⟩
    refine ⟨_, results_tmp rfl _ _ _, rfl, ((HF1.out.trans' HF2.out).trans' hI).trans fD (fun i hi h => ?_)⟩
    have h1 := HF1.out.size
    have h2 := HF2.out.size
    cases h
    omega
end Go.Proofs.YtbbplhpkhholeaaGreatDoor
