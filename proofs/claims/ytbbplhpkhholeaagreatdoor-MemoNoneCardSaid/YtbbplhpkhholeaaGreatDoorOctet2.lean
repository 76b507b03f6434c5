/- The walks of package octet's Reader. -/
import Derived.Test.YtbbplhpkhholeaaGreatDoorOctet1
set_option linter.unusedVariables false
set_option linter.unusedSimpArgs false
namespace Go.Proofs.YtbbplhpkhholeaaGreatDoor
open Go.RowKit

/-- The block of a Reader: what is left, the error; q: the block in which the bytes lie. -/
def IsRd (w : World) (p : Nat) (q : Option Nat) (bs : List Int) (e : Int) : Prop :=
  ∃ v, St w p 186 #[.bool true, v, .int .i64 e] ∧ SlN w .u8 v bs ∧ Byts bs ∧ v.ownBlock = q ∧ q ≠ some p
theorem IsRd.fr {S : Nat → Prop} {w w' : World} {p : Nat} {q : Option Nat} {bs : List Int} {e : Int} (h : IsRd w p q bs e) (hf : Fr S w w') (hp : ¬ S p) (hq : ∀ b, q = some b → ¬ S b) : IsRd w' p q bs e := by
  obtain ⟨v, h1, h2, h3, h4, h5⟩ := h
  exact ⟨v, h1.fr hf hp, h2.fr hf (fun b _ hs e => hq b (h4.symm.trans e) hs), h3, h4, h5⟩

set_option maxRecDepth 100000 in
set_option maxHeartbeats 400000 in
theorem number_any (w : World) (v : Value) (bs : List Int) (hR : SlN w .u8 v bs) (hb : Byts bs) :
    Calls Tryz.prog 122 #[v] w fun en w' => en = .returned (.tuple #[.int .u64 (numB bs).1, .int .i64 (numB bs).2.1, .int .i64 (numB bs).2.2]) ∧ w = w' := by
  obtain ⟨A, c, rfl, hlc, hc, hat⟩ := hR.form
  go_enter Tryz.func122, Tryz.ntmps122
  go_wp2
  go_loop [5, 6, 7, 10] (fun t5 t6 t7 t10 => ∃ (i : Nat) (x : Int), i ≤ bs.length ∧ t10 = .int .i64 i ∧ t5 = .int .u64 x ∧ Hid (NumK i x) ∧ Hid (numF i x (bs.drop i) = numB bs)) (fun _ _ _ i => bs.length - (intOf i).toNat)
  case atStart => exact ⟨0, 0, Nat.zero_le _, rfl, rfl, Lib.hid ⟨by omega, by decide, by omega⟩, Lib.hid rfl⟩
  case round =>
    obtain ⟨i, x, hi, rfl, rfl, hK, hE⟩ := hrel
    by_cases hlt : i < bs.length
    · obtain ⟨b, off, rfl, hcell⟩ := hat i hlt
      have hbi := hb.at_ i
      have hst := Lib.hid (numF_step i x bs hlt)
      generalize hy : rdI bs i = y at *
      have HY := Lib.hid hy
      clear hy
      have hi9 := hK.out.2.2
      by_cases hbad : (i = 9 ∧ 1 < y) ∨ (0 < i ∧ y = 0)
      · have hres : Hid (numB bs = (0, 0, 8)) := Lib.hid (by rw [← hE.out, hst.out, if_pos hbad])
        rcases hbad with ⟨rfl, h1⟩ | ⟨h0, rfl⟩
        · go_wp2
          all_goals (go_ret3; exact ⟨by rw [hres.out]; rfl, rfl⟩)
        · by_cases e9 : i = 9
          · subst e9
            go_wp2
            all_goals (go_ret3; exact ⟨by rw [hres.out]; rfl, rfl⟩)
          · go_wp2
            all_goals (go_ret3; exact ⟨by rw [hres.out]; rfl, rfl⟩)
      · have h9 : i = 9 → y ≤ 1 := fun e => by omega
        have hor := Lib.hid (hK.out.or' hbi h9)
        have hst' := Lib.hid (hst.out.trans (if_neg hbad))
        have h9' : 9 ≤ i → 1 ≤ y ∧ y ≤ 1 := fun e => by omega
        have h0' : 0 < i → 1 ≤ y := fun e => by omega
        have hK' : ¬ i = 9 → Hid (NumK (i + 1) (x + y % 128 * 128 ^ i)) := fun e => Lib.hid (hK.out.step e hbi.1)
        clear hbad h9
        by_cases h128 : y < 128
        · have hres : Hid (numB bs = (x + y % 128 * 128 ^ i, i + 1, 0)) := Lib.hid (by rw [← hE.out, hst'.out, if_pos h128])
          by_cases e9 : 9 ≤ i
          · obtain ⟨hy1, hy2⟩ := h9' e9
            have hb0 : (y == 0) = false := by simp; omega
            clear h9' h0' hK'
            go_wp2
            go_ret3
            obtain rfl : i = 9 := by omega
            exact ⟨by rw [hres.out]; show Ending.returned (.tuple #[.int .u64 _, .int .i64 _, .int .i64 _]) = _; rw [show (9223372036854775808 : Int) = 2 ^ (7 * 9) from by decide, hor.out]; rfl, rfl⟩
          · by_cases e0 : 0 < i
            · have hy1 := h0' e0
              clear h9' h0' hK'
              go_wp2
              go_ret3
              exact ⟨by rw [hres.out]; show Ending.returned (.tuple #[.int .u64 _, .int .i64 _, .int .i64 _]) = _; rw [hor.out]; rfl, rfl⟩
            · clear h9' h0' hK'
              go_wp2
              go_ret3
              exact ⟨by rw [hres.out]; show Ending.returned (.tuple #[.int .u64 _, .int .i64 _, .int .i64 _]) = _; rw [hor.out]; rfl, rfl⟩
        · have e9 : ¬ 9 ≤ i := fun e => by have := h9' e; omega
          have hK1 := hK' (by omega)
          have hres : Hid (numF (i + 1) (x + y % 128 * 128 ^ i) (bs.drop (i + 1)) = numB bs) := Lib.hid (by rw [← hE.out, hst'.out, if_neg h128])
          by_cases e0 : 0 < i
          · have hy1 := h0' e0
            clear h9' h0' hK'
            go_wp2
            go_round
            case rel => exact ⟨i + 1, _, by omega, by go_num, by rw [hor.out], hK1, hres⟩
            case measure => simp [intOf]; omega
          · clear h9' h0' hK'
            go_wp2
            go_round
            case rel => exact ⟨i + 1, _, by omega, by go_num, by rw [hor.out], hK1, hres⟩
            case measure => simp [intOf]; omega
    · obtain rfl : i = bs.length := by omega
      have hres : Hid (numB bs = (0, 0, 110)) := Lib.hid (by rw [← hE.out, numF_end])
      go_wp2
      go_ret3
      exact ⟨by rw [hres.out]; rfl, rfl⟩

theorem ready_any (w : World) (p : Nat) (q : Option Nat) (bs : List Int) (e : Int) (h : IsRd w p q bs e) :
    Calls Tryz.prog 120 #[.pointer (some ⟨p, 0, none⟩)] w fun en w' => en = .returned (.bool (e == 0)) ∧ w = w' := by
  obtain ⟨v, h1, _⟩ := h
  have c0 := h1.cell 0 rfl
  have c2 := h1.cell 2 rfl
  clear h1
  go_enter Tryz.func120, Tryz.ntmps120
  go_wp2
  go_ret
  exact ⟨rfl, rfl⟩
theorem refuse_any (w : World) (p : Nat) (q : Option Nat) (bs : List Int) (e0 e : Int) (h : IsRd w p q bs e0) :
    Calls Tryz.prog 121 #[.pointer (some ⟨p, 0, none⟩), .int .i64 e] w fun en w' => en = .returned (.tuple #[]) ∧ IsRd w' p q bs e ∧ Fr (fun k => k = p) w w' := by
  obtain ⟨v, h1, h2, h3, h4, h5⟩ := h
  have c2 := h1.cell 2 rfl
  have f2 := h1.frozen 2
  have H1 := Lib.hid (h1.set 2 (.int .i64 e))
  clear h1
  go_enter Tryz.func121, Tryz.ntmps121
  go_wp2
  go_end0
  have hf : Fr (fun k => k = p) w (w.setCell ⟨p, 2, none⟩ (.int .i64 e)) := (Fr.refl _ w).setCell _ (fun _ => rfl)
  exact ⟨rfl, ⟨v, H1.out, h2.fr hf (fun b _ hs e => h5 (by rw [← h4, e, hs])), h3, h4, h5⟩, hf⟩
set_option maxHeartbeats 400000 in
theorem take_any (w : World) (p : Nat) (q : Option Nat) (bs : List Int) (e : Int) (n : Nat) (h : IsRd w p q bs e) (hn : n ≤ bs.length) :
    Calls Tryz.prog 123 #[.pointer (some ⟨p, 0, none⟩), .int .i64 n] w fun en w' => ∃ v, en = .returned v ∧ SlN w' .u8 v (bs.take n) ∧ v.ownBlock = q ∧ IsRd w' p q (bs.drop n) e ∧ Fr (fun k => k = p) w w' := by
  obtain ⟨v, h1, h2, h3, h4, h5⟩ := h
  obtain ⟨A, c, rfl, hlc, hc, hat⟩ := h2.form
  have c1 := h1.cell 1 rfl
  have f1 := h1.frozen 1
  cases A with
  | none =>
    have hx : bs = [] := by
      cases bs with
      | nil => rfl
      | cons x r => obtain ⟨b, off, e, _⟩ := hat 0 (by simp); cases e
    subst hx
    obtain ⟨A', c', e', _, _, _, hc0, _⟩ := h2
    cases e'
    obtain rfl := hc0 rfl
    obtain rfl : n = 0 := by simpa using hn
    have H1 := Lib.hid (h1.set 1 (.slice none 0 0))
    clear h1 hat
    go_enter Tryz.func123, Tryz.ntmps123
    go_wp2
    go_ret
    have hf : Fr (fun k => k = p) w (w.setCell ⟨p, 1, none⟩ (.slice none 0 0)) := (Fr.refl _ w).setCell _ (fun _ => rfl)
    exact ⟨_, rfl, SlN.nil _ _, h4, ⟨_, H1.out, SlN.nil _ _, h3, h4, h5⟩, hf⟩
  | some ad =>
    have hsp : ad.spot = none := by
      obtain ⟨A', c', e', _, _, _, _, _, h6⟩ := h2
      cases e'
      exact (h6 _ rfl).1
    obtain ⟨b, off, sp⟩ := ad
    simp only at hsp
    subst hsp
    have hne : b ≠ p := fun e => h5 (by rw [← h4]; simp [Value.ownBlock, e])
    have hfin : ∀ u : Value, u.ownBlock = q → SlN w .u8 u (bs.drop n) → (St (w.setCell ⟨p, 1, none⟩ u) p 186 #[.bool true, u, .int .i64 e]) →
        ∃ v, Ending.returned (.slice (some ⟨b, off, none⟩) n n) = .returned v ∧ SlN (w.setCell ⟨p, 1, none⟩ u) .u8 v (bs.take n) ∧ v.ownBlock = q ∧ IsRd (w.setCell ⟨p, 1, none⟩ u) p q (bs.drop n) e ∧ Fr (fun k => k = p) w (w.setCell ⟨p, 1, none⟩ u) := by
      intro u hu hs hst
      have hf : Fr (fun k => k = p) w (w.setCell ⟨p, 1, none⟩ u) := (Fr.refl _ w).setCell _ (fun _ => rfl)
      exact ⟨_, rfl, (h2.take hn (Nat.le_refl _) (by omega)).fr hf (fun b' _ hs' e' => hne (by simp [Value.ownBlock] at e'; rw [e', hs'])), h4, ⟨u, hst, hs.fr hf (fun b' _ hs' e' => h5 (by rw [← hu, e', hs'])), h3.drop n, hu, h5⟩, hf⟩
    have HF := Lib.hid hfin
    have HS := Lib.hid (fun u => h1.set 1 u)
    have hd := Lib.hid h2
    have h4' := Lib.hid h4
    clear h1 hfin h2 h4 h5 hat
    by_cases hcap : c = n
    · go_enter Tryz.func123, Tryz.ntmps123
      go_wp2
      go_ret
      have hl : bs.length = n := by omega
      have e0 : bs.drop n = [] := by rw [← hl, List.drop_length]
      refine HF.out _ (by rw [← h4'.out]; rfl) ?_ (HS.out _)
      rw [e0, show bs.length - n = 0 from by omega]
      exact SlN.empty _ _ _ _ (fun ad e => by cases e; rfl) (by omega) (fun e => by cases e)
    · have hcap' : ¬ n = c := fun e => hcap e.symm
      go_enter Tryz.func123, Tryz.ntmps123
      go_wp2
      go_ret
      exact HF.out _ (by rw [← h4'.out]; rfl) (hd.out.drop hn) (HS.out _)
end Go.Proofs.YtbbplhpkhholeaaGreatDoor
