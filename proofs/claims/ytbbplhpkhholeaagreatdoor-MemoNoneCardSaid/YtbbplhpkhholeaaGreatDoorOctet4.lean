/- The walk of package octet's Reader.Text. -/
import Derived.Test.YtbbplhpkhholeaaGreatDoorOctet3
set_option linter.unusedVariables false
set_option linter.unusedSimpArgs false
namespace Go.Proofs.YtbbplhpkhholeaaGreatDoor
open Go.RowKit
/-- What Text answers, what it leaves. -/
def textR (most : Int) (bs : List Int) (e : Int) : List Int × List Int × Int :=
  if e ≠ 0 then ([], bs, e) else if most < 0 then ([], bs, 2) else
  if (numB bs).2.2 ≠ 0 then ([], bs, (numB bs).2.2) else
  if most < (numB bs).1 then ([], bs, 3) else
  if ((bs.length - (numB bs).2.1 : Nat) : Int) < (numB bs).1 then ([], bs, 110) else
  ((bs.drop (numB bs).2.1).take (numB bs).1.toNat, (bs.drop (numB bs).2.1).drop (numB bs).1.toNat, 0)
theorem textR_mk {most : Int} {bs : List Int} {x : Int} {n : Nat} {er : Int} (h : numB bs = (x, n, er)) (hm : ¬ most < 0) : textR most bs 0 =
  (if er ≠ 0 then ([], bs, er) else if most < x then ([], bs, 3) else if ((bs.length - n : Nat) : Int) < x then ([], bs, 110) else ((bs.drop n).take x.toNat, (bs.drop n).drop x.toNat, 0)) := by
  unfold textR; rw [h, if_neg (by simp), if_neg hm]

/-- string(b). -/
theorem conv_any {w : World} {v : Value} {ts : List Int} (h : SlN w .u8 v ts) : (convert 25 9 v).run Tryz.prog w = .ok (.string (strOfNums ts)) w := by
  obtain ⟨A, c, rfl, hlc, hc, hat⟩ := h.form
  cases A with
  | none =>
    have e0 : ts = [] := by
      cases ts with
      | nil => rfl
      | cons y r => obtain ⟨b, off, e, _⟩ := hat 0 (by simp); cases e
    subst e0
    exact run_convert_bytes_nil w 25 5 Tryz.underlying25 Tryz.underlying5 0 c 9 Tryz.underlying9
  | some ad =>
    obtain ⟨A', c', e', _, _, _, _, _, h6⟩ := h
    cases e'
    obtain ⟨b, off, sp⟩ := ad
    have := (h6 _ rfl).1
    simp only at this
    subst this
    exact run_convert_bytes_arg w 25 5 Tryz.underlying25 Tryz.underlying5 b off _ c _ rfl (fun i hi => (h6 _ rfl).2 i _ (numsV_at .u8 hi)) 9 Tryz.underlying9

set_option maxRecDepth 100000 in
set_option maxHeartbeats 1000000 in
theorem text_any (w : World) (p : Nat) (q : Option Nat) (bs : List Int) (e : Int) (most : Int) (h : IsRd w p q bs e) (hm0 : 0 ≤ most) (hm1 : most ≤ 1099511627776) :
    Calls Tryz.prog 84 #[.pointer (some ⟨p, 0, none⟩), .int .i64 most] w (RdPost w p q (.string (strOfNums (textR most bs e).1)) (textR most bs e).2.1 (textR most bs e).2.2) := by
  by_cases he : e = 0
  · subst he
    obtain ⟨v, h1, h2, h3, h4, h5⟩ := id h
    obtain ⟨A, c, rfl, hlc, hc, _⟩ := h2.form
    have hlen : bs.length ≤ 9223372036854775807 := by omega
    have c1 := h1.cell 1 rfl
    have H := Lib.hid h
    have H2 := Lib.hid h2
    have H3 := Lib.hid h3
    have hr := numB_range bs h3
    have hnum := number_any w (.slice A bs.length c) bs h2 h3
    clear h1 h2 h3 h4 h5 h
    obtain ⟨x, n, er, hN⟩ : ∃ x n er, numB bs = (x, n, er) := ⟨_, _, _, rfl⟩
    rw [hN] at hr hnum
    have HU := Lib.hid (textR_mk (most := most) hN (by omega))
    have HN := Lib.hid hN
    have HC := Lib.hid hnum
    clear hN hnum
    obtain ⟨hx, hn1, hn2⟩ := hr
    simp only at hx hn1 hn2
    obtain ⟨m, rfl⟩ := Int.eq_ofNat_of_zero_le hx.lo
    by_cases her : er = 0
    · subst her
      by_cases hlm : most < (m : Int)
      · go_enter Tryz.func84, Tryz.ntmps84
        go_wp2_with fail
        refine (ready_any w p q bs 0 H.out).mono ?_
        rintro e w1 ⟨rfl, rfl⟩
        go_wp2_with fail
        refine HC.out.mono ?_
        rintro e w1 ⟨rfl, rfl⟩
        go_wp2_with fail
        refine (refuse_any w p q bs 0 _ H.out).mono ?_
        rintro e w1 ⟨rfl, hi, hf⟩
        have HI := Lib.hid hi
        have HF := Lib.hid hf
        clear hi hf
        go_wp2
        go_ret
        rw [HU.out, if_neg (by simp), if_pos hlm]
        exact ⟨rfl, HI.out, HF.out⟩
      · by_cases hls : ((bs.length - n : Nat) : Int) < (m : Int)
        · go_enter Tryz.func84, Tryz.ntmps84
          go_wp2_with fail
          refine (ready_any w p q bs 0 H.out).mono ?_
          rintro e w1 ⟨rfl, rfl⟩
          go_wp2_with fail
          refine HC.out.mono ?_
          rintro e w1 ⟨rfl, rfl⟩
          go_wp2_with fail
          refine (refuse_any w p q bs 0 _ H.out).mono ?_
          rintro e w1 ⟨rfl, hi, hf⟩
          have HI := Lib.hid hi
          have HF := Lib.hid hf
          clear hi hf
          go_wp2
          go_ret
          rw [HU.out, if_neg (by simp), if_neg (by omega), if_pos (by omega)]
          exact ⟨rfl, HI.out, HF.out⟩
        · go_enter Tryz.func84, Tryz.ntmps84
          go_wp2_with fail
          refine (ready_any w p q bs 0 H.out).mono ?_
          rintro e w1 ⟨rfl, rfl⟩
          go_wp2_with fail
          refine HC.out.mono ?_
          rintro e w1 ⟨rfl, rfl⟩
          go_wp2_with fail
          refine (take_any w p q bs 0 n H.out hn1).mono ?_
          rintro e w1 ⟨v1, rfl, hs, ho, hi, hf⟩
          have HI := Lib.hid hi
          have HF := Lib.hid hf
          clear hs ho hi hf
          go_wp2_with fail
          refine (take_any w1 p q _ 0 m HI.out (by rw [List.length_drop]; omega)).mono ?_
          rintro e w2 ⟨v2, rfl, hs, ho, hi, hf⟩
          have HI2 := Lib.hid hi
          have HF2 := Lib.hid hf
          clear ho hi hf
          obtain ⟨ts, hts⟩ : ∃ ts, (bs.drop n).take m = ts := ⟨_, rfl⟩
          rw [hts] at hs
          have HTS := Lib.hid hts
          clear hts
          obtain ⟨A2, c2, rfl, hlc2, hc2, hat⟩ := hs.form
          have hcv : (convert 25 9 (.slice A2 ts.length c2)).run Tryz.prog w2 = .ok (.string (strOfNums ts)) w2 := conv_any hs
          clear hs hat hlc2
          go_wp2
          go_ret
          rw [HU.out, if_neg (by simp), if_neg (by omega), if_neg (by omega)]
          exact ⟨by rw [show (m : Int).toNat = m from rfl, HTS.out]; rfl, HI2.out, HF.out.trans' HF2.out⟩
    · have hnb : (er != 0) = true := by simpa using her
      go_enter Tryz.func84, Tryz.ntmps84
      go_wp2_with fail
      refine (ready_any w p q bs 0 H.out).mono ?_
      rintro e w1 ⟨rfl, rfl⟩
      go_wp2_with fail
      refine HC.out.mono ?_
      rintro e w1 ⟨rfl, rfl⟩
      go_wp2_with fail
      refine (refuse_any w p q bs 0 _ H.out).mono ?_
      rintro e w1 ⟨rfl, hi, hf⟩
      have HI := Lib.hid hi
      have HF := Lib.hid hf
      clear hi hf
      go_wp2
      go_ret
      rw [HU.out, if_pos her]
      exact ⟨rfl, HI.out, HF.out⟩
  · have HU : Hid (textR most bs e = ([], bs, e)) := Lib.hid (by unfold textR; rw [if_pos he])
    have hb : (e == 0) = false := by simpa using he
    have H := Lib.hid h
    clear h
    go_enter Tryz.func84, Tryz.ntmps84
    go_wp2_with fail
    refine (ready_any w p q bs e H.out).mono ?_
    rintro e w1 ⟨rfl, rfl⟩
    go_wp2
    go_ret
    rw [HU.out]
    exact ⟨rfl, H.out, Fr.refl _ _⟩
end Go.Proofs.YtbbplhpkhholeaaGreatDoor
