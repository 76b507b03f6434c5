/- The walks of package octet's Reader: its methods. -/
import Derived.Test.YtbbplhpkhholeaaGreatDoorOctet2
set_option linter.unusedVariables false
set_option linter.unusedSimpArgs false
namespace Go.Proofs.YtbbplhpkhholeaaGreatDoor
open Go.RowKit

/-- octet.Read. -/
theorem read_any (w : World) (v : Value) (bs : List Int) (h : SlN w .u8 v bs) (hb : Byts bs) (hl : bs.length ≤ 140737488355328) :
    Calls Tryz.prog 82 #[v] w fun en w' => ∃ p q, en = .returned (.pointer (some ⟨p, 0, none⟩)) ∧ w.heap.size ≤ p ∧ (∀ b, q = some b → w.heap.size ≤ b) ∧ IsRd w' p q bs 0 ∧ Below w.heap.size w w' := by
  go_enter Tryz.func82, Tryz.ntmps82
  go_wp2_with fail
  refine (clone_any w v bs h hl).mono ?_
  rintro e w1 ⟨v1, rfl, hown, hb1⟩
  obtain ⟨A, c, rfl, _⟩ := (SlN.of_own hown).form
  have HO := Lib.hid hown
  have HB := Lib.hid hb1
  clear hown hb1 h
  go_wp2
  go_ret
  refine ⟨_, _, rfl, HB.out.size, fun b e => (HO.out.lt b e).1, ⟨_, St.new _ _ _, (SlN.of_own HO.out).alloc _, hb, rfl, fun e => by have := (HO.out.lt _ e).2; omega⟩, HB.out.alloc HB.out.size _⟩

theorem left_any (w : World) (p : Nat) (q : Option Nat) (bs : List Int) (e : Int) (h : IsRd w p q bs e) :
    Calls Tryz.prog 83 #[.pointer (some ⟨p, 0, none⟩)] w fun en w' => en = .returned (.int .i64 bs.length) ∧ w = w' := by
  obtain ⟨v, h1, h2, _⟩ := h
  obtain ⟨A, c, rfl, _⟩ := h2.form
  have c1 := h1.cell 1 rfl
  clear h1 h2
  go_enter Tryz.func83, Tryz.ntmps83
  go_wp2
  go_ret
  exact ⟨rfl, rfl⟩
theorem err_any (w : World) (p : Nat) (q : Option Nat) (bs : List Int) (e : Int) (h : IsRd w p q bs e) :
    Calls Tryz.prog 86 #[.pointer (some ⟨p, 0, none⟩)] w fun en w' => en = .returned (.int .i64 e) ∧ w = w' := by
  obtain ⟨v, h1, h2, _⟩ := h
  have c1 := h1.cell 2 rfl
  clear h1 h2
  go_enter Tryz.func86, Tryz.ntmps86
  go_wp2
  go_ret
  exact ⟨rfl, rfl⟩
def endE (bs : List Int) (e : Int) : Int := if e ≠ 0 then e else if bs = [] then 0 else 111
theorem end_any (w : World) (p : Nat) (q : Option Nat) (bs : List Int) (e : Int) (h : IsRd w p q bs e) :
    Calls Tryz.prog 93 #[.pointer (some ⟨p, 0, none⟩)] w fun en w' => en = .returned (.int .i64 (endE bs e)) ∧ w = w' := by
  obtain ⟨v, h1, h2, _⟩ := h
  obtain ⟨A, c, rfl, _⟩ := h2.form
  have c1 := h1.cell 1 rfl
  have c2 := h1.cell 2 rfl
  clear h1 h2
  by_cases he : e = 0
  · subst he
    by_cases hb : bs.length = 0
    · obtain rfl : bs = [] := List.eq_nil_of_length_eq_zero hb
      go_enter Tryz.func93, Tryz.ntmps93
      go_wp2
      go_ret
      exact ⟨rfl, rfl⟩
    · have hp : 0 < bs.length := by omega
      have hn : Hid (bs ≠ []) := Lib.hid (fun e => hb (by rw [e]; rfl))
      clear hb
      go_enter Tryz.func93, Tryz.ntmps93
      go_wp2
      go_ret
      exact ⟨by unfold endE; rw [if_neg (by simp), if_neg hn.out]; rfl, rfl⟩
  · have hn : (e != 0) = true := by simpa using he
    go_enter Tryz.func93, Tryz.ntmps93
    go_wp2
    go_ret
    exact ⟨by unfold endE; rw [if_pos he]; rfl, rfl⟩

/-- What Uint answers, what it leaves: the number; the bytes; the error. -/
def uintR (bs : List Int) (e : Int) : Int × List Int × Int := if e ≠ 0 then (0, bs, e) else if (numB bs).2.2 ≠ 0 then (0, bs, (numB bs).2.2) else ((numB bs).1, bs.drop (numB bs).2.1, 0)
def RdPost (w : World) (p : Nat) (q : Option Nat) (v : Value) (bs : List Int) (e : Int) (en : Ending) (w' : World) : Prop := en = .returned v ∧ IsRd w' p q bs e ∧ Fr (fun k => k = p) w w'

set_option maxHeartbeats 400000 in
theorem uint_any (w : World) (p : Nat) (q : Option Nat) (bs : List Int) (e : Int) (h : IsRd w p q bs e) :
    Calls Tryz.prog 92 #[.pointer (some ⟨p, 0, none⟩)] w (RdPost w p q (.int .u64 (uintR bs e).1) (uintR bs e).2.1 (uintR bs e).2.2) := by
  by_cases he : e = 0
  · subst he
    obtain ⟨v, h1, h2, h3, h4, h5⟩ := id h
    have c1 := h1.cell 1 rfl
    have H := Lib.hid h
    have hr := numB_range bs h3
    have H2 := Lib.hid h2
    have H3 := Lib.hid h3
    have HR := Lib.hid hr
    clear h1 h2 h3 h4 h5 h hr
    go_enter Tryz.func92, Tryz.ntmps92
    go_wp2_with fail
    refine (ready_any w p q bs 0 H.out).mono ?_
    rintro e w1 ⟨rfl, rfl⟩
    go_wp2_with fail
    refine (number_any w v bs H2.out H3.out).mono ?_
    rintro e w1 ⟨rfl, rfl⟩
    by_cases hn : (numB bs).2.2 = 0
    · have hnb : ((numB bs).2.2 != 0) = false := by simp [hn]
      have HU : Hid (uintR bs 0 = ((numB bs).1, bs.drop (numB bs).2.1, 0)) := Lib.hid (by unfold uintR; rw [if_neg (by simp), if_neg (by simpa using hn)])
      clear hn
      go_wp2_with fail
      refine (take_any w p q bs 0 _ H.out HR.out.2.1).mono ?_
      rintro e w1 ⟨v1, rfl, hs, ho, hi, hf⟩
      have HI := Lib.hid hi
      have HF := Lib.hid hf
      clear hs ho hi hf
      go_wp2
      go_ret
      rw [HU.out]
      exact ⟨rfl, HI.out, HF.out⟩
    · have hnb : ((numB bs).2.2 != 0) = true := by simpa using hn
      have HU : Hid (uintR bs 0 = (0, bs, (numB bs).2.2)) := Lib.hid (by unfold uintR; rw [if_neg (by simp), if_pos (by simpa using hn)])
      clear hn
      go_wp2_with fail
      refine (refuse_any w p q bs 0 _ H.out).mono ?_
      rintro e w1 ⟨rfl, hi, hf⟩
      have HI := Lib.hid hi
      have HF := Lib.hid hf
      clear hi hf
      go_wp2
      go_ret
      rw [HU.out]
      exact ⟨rfl, HI.out, HF.out⟩
  · have HU : Hid (uintR bs e = (0, bs, e)) := Lib.hid (by unfold uintR; rw [if_pos he])
    have hb : (e == 0) = false := by simpa using he
    rw [HU.out]
    have H := Lib.hid h
    clear h
    go_enter Tryz.func92, Tryz.ntmps92
    go_wp2_with fail
    refine (ready_any w p q bs e H.out).mono ?_
    rintro e w1 ⟨rfl, rfl⟩
    go_wp2
    go_ret
    exact ⟨rfl, H.out, Fr.refl _ _⟩

/-- What Word answers, what it leaves. -/
def wordR (bs : List Int) (e : Int) : Int × List Int × Int := if e ≠ 0 then (0, bs, e) else if bs.length < 8 then (0, bs, 110) else (wordV (bs.take 8), bs.drop 8, 0)
set_option maxHeartbeats 400000 in
theorem word_any (w : World) (p : Nat) (q : Option Nat) (bs : List Int) (e : Int) (h : IsRd w p q bs e) :
    Calls Tryz.prog 85 #[.pointer (some ⟨p, 0, none⟩)] w (RdPost w p q (.int .u64 (wordR bs e).1) (wordR bs e).2.1 (wordR bs e).2.2) := by
  by_cases he : e = 0
  · subst he
    obtain ⟨v, h1, h2, h3, h4, h5⟩ := id h
    obtain ⟨A, c, rfl, _⟩ := h2.form
    have c1 := h1.cell 1 rfl
    have H := Lib.hid h
    have H3 := Lib.hid h3
    clear h1 h2 h3 h4 h5 h
    by_cases hl : bs.length < 8
    · have HU : Hid (wordR bs 0 = (0, bs, 110)) := Lib.hid (by unfold wordR; rw [if_neg (by simp), if_pos hl])
      go_enter Tryz.func85, Tryz.ntmps85
      go_wp2_with fail
      refine (ready_any w p q bs 0 H.out).mono ?_
      rintro e w1 ⟨rfl, rfl⟩
      go_wp2_with fail
      refine (refuse_any w p q bs 0 _ H.out).mono ?_
      rintro e w1 ⟨rfl, hi, hf⟩
      have HI := Lib.hid hi
      have HF := Lib.hid hf
      clear hi hf
      go_wp2
      go_ret
      rw [HU.out]
      exact ⟨rfl, HI.out, HF.out⟩
    · have HU : Hid (wordR bs 0 = (wordV (bs.take 8), bs.drop 8, 0)) := Lib.hid (by unfold wordR; rw [if_neg (by simp), if_neg hl])
      go_enter Tryz.func85, Tryz.ntmps85
      go_wp2_with fail
      refine (ready_any w p q bs 0 H.out).mono ?_
      rintro e w1 ⟨rfl, rfl⟩
      go_wp2_with fail
      refine (take_any w p q bs 0 8 H.out (by omega)).mono ?_
      rintro e w1 ⟨v1, rfl, hs, ho, hi, hf⟩
      have htl : (bs.take 8).length = 8 := by rw [List.length_take]; omega
      have HB := Lib.hid (H3.out.take 8)
      generalize bs.take 8 = ts at *
      obtain ⟨A1, c1', rfl, hlc1, hc1, hat⟩ := hs.form
      have HI := Lib.hid hi
      have HF := Lib.hid hf
      rw [htl] at hat hlc1
      have HT := Lib.hid htl
      clear hs ho hi hf htl
      rw [HT.out]
      go_wp2_with fail
      go_loop [3, 5, 31] (fun t3 t5 t31 => ∃ (i : Nat) (x : Int), i ≤ 8 ∧ t31 = .int .i64 i ∧ t3 = .int .u64 x ∧ Hid (WordK i x) ∧ Hid (wordG x (ts.drop i) = wordV ts)) (fun _ _ i => 8 - (intOf i).toNat)
      case atStart => exact ⟨0, 0, by omega, rfl, rfl, Lib.hid ⟨by omega, by decide, by omega⟩, Lib.hid rfl⟩
      case round =>
        obtain ⟨i, x, hi, rfl, rfl, hK, hE⟩ := hrel
        by_cases hlt : i < 8
        · obtain ⟨b, off, rfl, hcell⟩ := hat i hlt
          have hor := Lib.hid (hK.out.or hlt (HB.out.at_ i))
          have hK1 := Lib.hid (hK.out.step hlt (HB.out.at_ i))
          have hE1 := Lib.hid (wordG_step x ts i (by rw [HT.out]; exact hlt))
          generalize rdI ts i = y at *
          go_wp2
          go_round
          case rel => exact ⟨i + 1, _, by omega, by go_num, by rw [hor.out], hK1, Lib.hid (by rw [← hE1.out, hE.out])⟩
          case measure => simp [intOf]; omega
        · obtain rfl : i = 8 := by omega
          have hE1 : Hid (x = wordV ts) := Lib.hid (by rw [← hE.out, ← HT.out, List.drop_length]; rfl)
          go_wp2
          go_ret
          rw [HU.out]
          exact ⟨by rw [← hE1.out]; rfl, HI.out, HF.out⟩
  · have HU : Hid (wordR bs e = (0, bs, e)) := Lib.hid (by unfold wordR; rw [if_pos he])
    have hb : (e == 0) = false := by simpa using he
    have H := Lib.hid h
    clear h
    go_enter Tryz.func85, Tryz.ntmps85
    go_wp2_with fail
    refine (ready_any w p q bs e H.out).mono ?_
    rintro e w1 ⟨rfl, rfl⟩
    go_wp2
    go_ret
    rw [HU.out]
    exact ⟨rfl, H.out, Fr.refl _ _⟩
end Go.Proofs.YtbbplhpkhholeaaGreatDoor
