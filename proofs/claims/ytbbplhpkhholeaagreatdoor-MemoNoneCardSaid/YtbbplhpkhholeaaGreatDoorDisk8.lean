/- Package disk, plainly: what Append keeps. -/
import Derived.Test.YtbbplhpkhholeaaGreatDoorDisk7
set_option linter.unusedVariables false
set_option linter.unusedSimpArgs false
set_option maxRecDepth 20000
namespace Go.Proofs.YtbbplhpkhholeaaGreatDoor
open Go.RowKit Go.Maps

theorem pieces_ok (s : ByteArray) : ∀ (n : Nat) (d : Dk) (bs : List Int), bs.length ≤ n → DkOk d → (names d.fs).Nodup → d.writes + bs.length ≤ 4611686018427387904 → ((flook d.fs s).isSome = true ∨ d.fs.length < 256) →
    DkOk (Dk.pieces s n d bs).1 ∧ (Dk.pieces s n d bs).1.writes ≤ d.writes + bs.length ∧ (names (Dk.pieces s n d bs).1.fs).Nodup
  | 0, d, bs, _, h, hn, _, _ => ⟨h, by simp only [Dk.pieces]; omega, hn⟩
  | n + 1, d, bs, hl, h, hn, hw, hr => by
    unfold Dk.pieces
    by_cases e : bs = []
    · rw [if_pos e]
      exact ⟨h, by simp only; omega, hn⟩
    · rw [if_neg e]
      have hp : 0 < bs.length := List.length_pos_iff.2 e
      cases hraw : d.raw with
      | none => exact ⟨h, by simp only; omega, hn⟩
      | some d1 =>
        have hfs := raw_fs hraw
        have hwr := raw_writes hraw
        have h1 := (h.raw hraw (by omega)).put (hfs ▸ hn) s ((flook d1.fs s).getD [] ++ bs.take 32) (by rw [hfs]; exact hr)
        obtain ⟨k1, k2, k3⟩ := pieces_ok s n { d1 with fs := fput d1.fs s ((flook d1.fs s).getD [] ++ bs.take 32) } (bs.drop 32) (by simp; omega) h1 (names_put_nodup (hfs ▸ hn)) (by simp only [List.length_drop]; omega) (by left; simp [flook_put_same])
        refine ⟨k1, ?_, k3⟩
        simp only [List.length_drop] at k2 ⊢
        omega
theorem append_ok (d : Dk) (s : ByteArray) (bs : List Int) (h : DkOk d) (hn : (names d.fs).Nodup) (hw : d.writes + 4194305 ≤ 4611686018427387904) :
    DkOk (d.append s bs).1 ∧ (d.append s bs).1.writes ≤ d.writes + 4194305 ∧ (names (d.append s bs).1.fs).Nodup := by
  unfold Dk.append
  split
  · split
    · exact ⟨h, by simp only; omega, hn⟩
    · rename_i hc
      split
      · rename_i hz
        unfold Dk.touch
        cases hraw : d.raw with
        | none => exact ⟨h, by simp only; omega, hn⟩
        | some d1 =>
          have hfs := raw_fs hraw
          have hwr := raw_writes hraw
          have hlt : d.fs.length < 256 := by
            have := h.n1
            by_cases e : d.fs.length = 256
            · exact absurd (.inl ⟨hz.2, e⟩) hc
            · omega
          have h1 := (h.raw hraw (by omega)).put (hfs ▸ hn) s [] (by rw [hfs]; exact .inr hlt)
          exact ⟨h1, by simp only; omega, names_put_nodup (hfs ▸ hn)⟩
      · have hl : bs.length ≤ 4194304 := by
          by_cases e : 4194304 < ((flook d.fs s).getD []).length + bs.length
          · exact absurd (.inr e) hc
          · omega
        have hr : (flook d.fs s).isSome = true ∨ d.fs.length < 256 := by
          cases hf : flook d.fs s with
          | some _ => exact .inl rfl
          | none =>
            right
            have := h.n1
            by_cases e : d.fs.length = 256
            · exact absurd (.inl ⟨by rw [hf]; rfl, e⟩) hc
            · omega
        obtain ⟨k1, k2, k3⟩ := pieces_ok s bs.length d bs (Nat.le_refl _) h hn (by omega) hr
        exact ⟨k1, by omega, k3⟩
  · exact ⟨h, by simp only; omega, hn⟩
end Go.Proofs.YtbbplhpkhholeaaGreatDoor
