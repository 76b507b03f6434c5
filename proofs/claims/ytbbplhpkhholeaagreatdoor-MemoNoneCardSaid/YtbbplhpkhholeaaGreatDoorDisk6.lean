/- Package disk: Remove, Truncate. -/
import Derived.Test.YtbbplhpkhholeaaGreatDoorDisk5
set_option linter.unusedVariables false
set_option linter.unusedSimpArgs false
set_option maxRecDepth 20000
namespace Go.Proofs.YtbbplhpkhholeaaGreatDoor
open Go.RowKit Go.Maps

def Dk.remove (d : Dk) (s : ByteArray) : Dk × Int :=
  if (flook d.fs s).isNone = true then (d, 4) else
  match d.raw with
  | none => (d, 6)
  | some d1 => ({ d1 with fs := fdel d1.fs s }, 0)
theorem remove_any (w : World) (p : Nat) (d : Dk) (S : Nat → Prop) (s : ByteArray) (h : IsDisk w p d S) (hd : DkOk d) (hs : s.size ≤ maxLen) :
    Calls Tryz.prog 100 #[.pointer (some ⟨p, 0, none⟩), .string s] w fun en w' => en = .returned (.int .i64 (d.remove s).2) ∧ IsDisk w' p (d.remove s).1 S ∧ Fr S w w' := by
  obtain ⟨mb, D, h1, h2, h3, h4, h5, h6, h7⟩ := id h
  have c0 : w.cell? ⟨p, 0, none⟩ = some (.map (some mb)) := h1.cell 0 rfl
  obtain ⟨W2, hW2⟩ : ∃ W2, (w.alloc (.cells #[.pointer (some ⟨p, 0, none⟩)] 32)).alloc (.cells #[.string s] 9) = W2 := ⟨_, rfl⟩
  have hf2 : Fr (fun _ => False) w W2 := by rw [← hW2]; exact ((Fr.refl _ w).alloc _).alloc _
  have hm2 : ∀ n, (W2.drewN n).ownsMap Tryz.prog 9 HR mb d.fs.length D := fun n => ownsMap_fr h2 (hf2.drewN n) (fun h => h)
  have hlk : ∀ n, _ := fun n => look_cases (hm2 n) keyed_str Tryz.underlying104 (zeroB (W2.drewN n)) (keyOf_str hs)
  have hcA : W2.cell? ⟨p, 0, none⟩ = some (.map (some mb)) := hf2.cell c0 (fun h => h)
  have hbx1 : W2.cell? ⟨w.heap.size, 0, none⟩ = some (.pointer (some ⟨p, 0, none⟩)) := by
    rw [← hW2]
    simp
  have hbx2 : W2.cell? ⟨w.heap.size + 1, 0, none⟩ = some (.string s) := by
    rw [← hW2]
    simp
  have HH := Lib.hid h
  have HF := Lib.hid hf2
  have HS := Lib.hid hs
  have HIS := Lib.hid h4
  have hps : p < w.heap.size := h7 p h4
  have HB1 : Hid (w.heap.size ≠ p) := Lib.hid (by omega)
  have HB2 : Hid (w.heap.size + 1 ≠ p) := Lib.hid (by omega)
  cases hf : flook d.fs s with
  | none =>
    rw [h3.no s hf] at hlk
    simp only [Option.getD_none, Option.isSome_none] at hlk
    have HA : Hid (d.remove s = (d, 4)) := Lib.hid (by unfold Dk.remove; rw [hf]; rfl)
    clear h h2 h3 hm2 hf2 hs
    go_enter Tryz.func100, Tryz.ntmps100
    go_wp2_with fail
    go_quiet (fail)
    clear hlk
    go_wp2
    go_ret
    rw [HA.out]
    exact ⟨rfl, HH.out.fr (HF.out.drewN _) (fun _ _ h => h), (HF.out.drewN _).mono (fun _ _ h => h.elim)⟩
  | some bs =>
    obtain ⟨_, _, v0, hv0, _⟩ := h3.yes s bs hf
    rw [hv0] at hlk
    simp only [Option.getD_some, Option.isSome_some] at hlk
    have HA : Hid (d.remove s = match d.raw with | none => (d, 6) | some d1 => ({ d1 with fs := fdel d1.fs s }, 0)) := Lib.hid (by unfold Dk.remove; rw [hf]; rfl)
    clear h h2 h3 hm2 hf2 hs hv0
    go_enter Tryz.func100, Tryz.ntmps100
    go_wp2_with fail
    go_quiet (fail)
    clear hlk
    go_wp2_with fail
    have HI : IsDisk (W2.drewN nq) p d S := HH.out.fr (HF.out.drewN _) (fun _ _ h => h)
    refine (raw_disk (W2.drewN nq) p d S _ _ (fun w' => ∃ d1, d.raw = some d1 ∧ IsDisk w' p { d1 with fs := fdel d1.fs s } S ∧ Fr S (W2.drewN nq) w') HI hd (fun _ _ => rfl) (fun w1 d1 hr1 hi1 hf1 hz1 =>
      (remove1_disk w1 p d1 S _ _ s hi1 HS.out (hf1.cell hbx1 HB1.out) (hf1.cell hbx2 HB2.out)).mono ?_)).mono ?_
    · rintro e w2 ⟨rfl, hI2, hF2⟩
      exact ⟨rfl, d1, hr1, hI2, hf1.mono (fun i _ e => e ▸ HIS.out) |>.trans' hF2⟩
    · rintro e w2 (⟨hr, rfl, rfl⟩ | ⟨-, rfl, d1, hr, hI2, hF2⟩)
      · go_wp2
        go_ret
        rw [HA.out, hr]
        exact ⟨rfl, HI, (HF.out.drewN _).mono (fun _ _ h => h.elim)⟩
      · have HI2 := Lib.hid hI2
        have HF2 := Lib.hid hF2
        clear hI2 hF2
        go_wp2
        go_ret
        rw [HA.out, hr]
        exact ⟨rfl, HI2.out, ((HF.out.drewN _).mono (fun _ _ h => h.elim)).trans' HF2.out⟩
end Go.Proofs.YtbbplhpkhholeaaGreatDoor
