/- The memo laws' helper 'wakes': it answers true. -/
import Derived.Test.YtbbplhpkhholeaaGreatDoorOpen1
set_option linter.unusedVariables false
set_option linter.unusedSimpArgs false
set_option maxRecDepth 20000
namespace Go.Proofs.YtbbplhpkhholeaaGreatDoor
open Go.RowKit Go.Maps Go.Shelf Go.Sort

theorem raw_on {d : Dk} (h : d.cut = false) : d.raw = some { d with writes := d.writes + 1 } := by
  unfold Dk.raw
  rw [if_neg (by rw [h]; simp)]
theorem pieces_on (s : ByteArray) : ∀ (n : Nat) (d : Dk) (bs : List Int), d.cut = false → (Dk.pieces s n d bs).2 = 0 ∧ (Dk.pieces s n d bs).1.cut = false ∧ (∀ t, t ≠ s → flook (Dk.pieces s n d bs).1.fs t = flook d.fs t)
  | 0, d, bs, h => ⟨rfl, h, fun _ _ => rfl⟩
  | n + 1, d, bs, h => by
    unfold Dk.pieces
    by_cases e : bs = []
    · rw [if_pos e]
      exact ⟨rfl, h, fun _ _ => rfl⟩
    · rw [if_neg e, raw_on h]
      obtain ⟨k1, k2, k3⟩ := pieces_on s n { d with writes := d.writes + 1, fs := fput d.fs s ((flook d.fs s).getD [] ++ bs.take 32) } (bs.drop 32) h
      exact ⟨k1, k2, fun t ht => (k3 t ht).trans (flook_put_other ht)⟩
theorem append_on {d : Dk} {s : ByteArray} {bs : List Int} (h : d.cut = false) (hm : mayN s = true) (hr : ¬ ((flook d.fs s).isNone = true ∧ d.fs.length = 256 ∨ 4194304 < ((flook d.fs s).getD []).length + bs.length)) :
    (d.append s bs).2 = 0 ∧ (d.append s bs).1.cut = false ∧ (∀ t, t ≠ s → flook (d.append s bs).1.fs t = flook d.fs t) := by
  unfold Dk.append
  rw [if_pos hm, if_neg hr]
  split
  · unfold Dk.touch
    rw [raw_on h]
    exact ⟨rfl, h, fun t ht => flook_put_other ht⟩
  · exact pieces_on s _ d bs h
theorem pieces_len (s : ByteArray) : ∀ (n : Nat) (d : Dk) (bs : List Int), (names d.fs).Nodup → (Dk.pieces s n d bs).1.fs.length ≤ d.fs.length + (if (flook d.fs s).isSome then 0 else 1)
  | 0, d, bs, _ => by simp only [Dk.pieces]; omega
  | n + 1, d, bs, h => by
    unfold Dk.pieces
    by_cases e : bs = []
    · rw [if_pos e]
      simp only; omega
    · rw [if_neg e]
      cases hraw : d.raw with
      | none => simp only; omega
      | some d1 =>
        have hfs := raw_fs hraw
        have hp := length_put (fs := d1.fs) (s := s) (b := (flook d1.fs s).getD [] ++ bs.take 32) (hfs ▸ h)
        have := pieces_len s n { d1 with fs := fput d1.fs s ((flook d1.fs s).getD [] ++ bs.take 32) } (bs.drop 32) (names_put_nodup (hfs ▸ h))
        simp only [flook_put_same, Option.isSome_some, if_true, Nat.add_zero] at this
        simp only
        have hp' : (fput d1.fs s ((flook d1.fs s).getD [] ++ bs.take 32)).length = if (flook d.fs s).isSome = true then d.fs.length else d.fs.length + 1 := by rw [hp, hfs]
        rw [hp'] at this
        split at this <;> rename_i hh
        · rw [if_pos hh]; omega
        · rw [if_neg hh]; omega
theorem append_len (d : Dk) (s : ByteArray) (bs : List Int) (h : (names d.fs).Nodup) : (d.append s bs).1.fs.length ≤ d.fs.length + 1 := by
  unfold Dk.append
  split
  · split
    · simp only; omega
    · split
      · unfold Dk.touch
        cases hraw : d.raw with
        | none => simp only; omega
        | some d1 =>
          have hfs := raw_fs hraw
          simp only
          rw [length_put (hfs ▸ h), hfs]
          split <;> omega
      · have := pieces_len s bs.length d bs h
        split at this <;> omega
  · simp only; omega
def wKey : Int := 255
def wFile : ByteArray := ⟨#[109, 101, 109, 111, 45]⟩ ++ hexS 255
def wL : List Pr := [(7, 0), (3, 9)]
theorem wFile_may : mayN wFile = true ∧ mayN (nameN wFile 1) = true := by
  decide +kernel
theorem wFile_size : wFile.size = 21 := by decide +kernel
theorem runB_len (ps : List Pr) (h : ps.length ≤ 1048576) : (runB ps).length ≤ 18 + 16 * ps.length := by
  have hu : (uintB ps.length).length ≤ 10 := (uintB_len (x := ps.length) ⟨by omega, by omega⟩).2
  simp only [runB, headB, List.length_append, wordB_len, pairsB_len]
  omega
theorem w_make : makeR wL = (0, runB (sortP wL)) := makeR_mk (by decide) (by decide) (by decide)
theorem w_lay : ∃ m1 j1 d1, addR ⟨[], [], 0, false⟩ ⟨[], 0, false⟩ ⟨[], 0, 0, false⟩ wFile wL = (m1, j1, d1, 0) ∧ m1.known = wL := by
  have hmay := wFile_may
  have hb : (runB (sortP wL)).length ≤ 50 := by
    have e : (sortP wL).length = 2 := (sortP_perm wL).length_eq
    have := runB_len (sortP wL) (by rw [e]; decide)
    rw [e] at this
    exact this
  obtain ⟨a1, a2, a3⟩ := append_on (d := ⟨[], 0, 0, false⟩) (s := nameN wFile 1) (bs := runB (sortP wL)) rfl hmay.2 (by
    rintro (h | h)
    · exact absurd h.2 (by decide)
    · simp [flook] at h
      omega)
  have hne : wFile ≠ nameN wFile 1 := by
    intro e
    have h1 := congrArg ByteArray.size e
    have h2 : (nameN wFile 1).size = wFile.size + 1 + (itoaB 1).size := by simp [nameN, dashB, ByteArray.size_append]; rfl
    omega
  obtain ⟨d1, hd1⟩ : ∃ d1, (Dk.append ⟨[], 0, 0, false⟩ (nameN wFile 1) (runB (sortP wL))) = d1 := ⟨_, rfl⟩
  rw [hd1] at a1 a2 a3
  have hl1 : d1.1.fs.length ≤ 1 := by
    rw [← hd1]
    exact append_len ⟨[], 0, 0, false⟩ _ _ (by simp [names])
  have hrl : (recN [1]).length ≤ 20 := by decide +kernel
  have hrb : (recB (recN [1])).length ≤ 40 := by decide +kernel
  obtain ⟨b1, b2, b3⟩ := append_on (d := d1.1) (s := wFile) (bs := recB (recN [1])) a2 hmay.1 (by
    rintro (h | h)
    · omega
    · rw [a3 wFile hne] at h
      simp [flook] at h
      omega)
  have hj : (Jn.append ⟨[], 0, false⟩ d1.1 wFile (recN [1])).2.2 = 0 := by
    unfold Jn.append
    rw [if_neg (by simp), if_neg (by omega), if_pos b1]
  have hlay : (layR ⟨[], [], 0, false⟩ ⟨[], 0, false⟩ ⟨[], 0, 0, false⟩ wFile (runB (sortP wL)) []).2.2.2 = 0 := by
    unfold layR
    simp only [show (0 : Int) + 1 = 1 from rfl, show (1 : Int).toNat = 1 from rfl, hd1, List.map_nil]
    rw [if_neg (by simp [a1]), if_neg (by simp [hj])]
  have hfilt : wL.filter (isNew []) = wL := by decide
  have hw : writeR ⟨[], [], 0, false⟩ ⟨[], 0, false⟩ ⟨[], 0, 0, false⟩ wFile wL = ({ (layR ⟨[], [], 0, false⟩ ⟨[], 0, false⟩ ⟨[], 0, 0, false⟩ wFile (runB (sortP wL)) []).1 with known := [] ++ wL }, (layR ⟨[], [], 0, false⟩ ⟨[], 0, false⟩ ⟨[], 0, 0, false⟩ wFile (runB (sortP wL)) []).2.1, (layR ⟨[], [], 0, false⟩ ⟨[], 0, false⟩ ⟨[], 0, 0, false⟩ wFile (runB (sortP wL)) []).2.2.1, 0) := by
    unfold writeR
    simp only
    rw [if_neg (by simp [hlay])]
  refine ⟨_, _, _, by
    unfold addR
    rw [if_neg (by simp), w_make, if_neg (by simp), if_neg (by decide), hfilt, if_neg (by decide), if_neg (by decide)]
    simp only [hw]
    rfl, rfl⟩
set_option maxHeartbeats 1600000 in
theorem wakes_any (w : World) : Calls Tryz.prog 8 #[] w fun en w' => en = .returned (.bool true) ∧ Fr (fun _ => False) w w' := by
  have hnew := new_any w
  have HN := Lib.hid hnew
  clear hnew
  go_enter Tryz.func8, Tryz.ntmps8
  go_wp2_with fail
  refine HN.out.mono ?_
  rintro e w1 ⟨p, Sd, rfl, hd1, hS1, hb1⟩
  have hop := mopen_new w1 p ⟨[], 0, 0, false⟩ Sd 255 hd1 rfl ⟨by decide, by decide⟩ (by decide)
  have HOP := Lib.hid hop
  have HB1 := Lib.hid hb1
  have HS1 := Lib.hid hS1
  clear hop hb1 hS1 hd1 HN
  go_wp2_with fail
  refine HOP.out.mono ?_
  rintro e w2 ⟨mp, jp, Sm, Sj, rfl, sys2, hm2, hj2, hf2⟩
  have HS2 := Lib.hid sys2
  have HM2 := Lib.hid hm2
  have HJ2 := Lib.hid hj2
  have HF2 := Lib.hid hf2
  clear sys2 hm2 hj2 hf2 HOP
  go_wp2_with fail
  obtain ⟨W2, hW2⟩ : ∃ W2, w2.alloc (.cells #[.int .u64 7, .int .u64 0, .int .u64 3, .int .u64 9] 68) = W2 := ⟨_, rfl⟩
  have hFW : Fr (fun _ => False) w2 W2 := by rw [← hW2]; exact (Fr.refl _ _).alloc _
  have hrow : W2.ownsRow 0 68 2 (.slice (some ⟨w2.heap.size, 0, none⟩) 2 2) wL.length (prsV wL) := by
    rw [← hW2]
    exact ⟨by decide, .inr ⟨w2.heap.size, 2, _, rfl, Nat.zero_le _, heap_alloc_new _ _, by decide, by decide, rfl, rfl⟩⟩
  have hsys : Sys W2 mp p jp wFile ⟨[], [], 0, false⟩ ⟨[], 0, false⟩ ⟨[], 0, 0, false⟩ Sm Sj Sd := ⟨HS2.out.memo.fr hFW (fun _ _ h => h), HS2.out.jn.fr hFW (fun _ _ h => h), HS2.out.dk.fr hFW (fun _ _ h => h), HS2.out.mj, HS2.out.md, HS2.out.jd⟩
  have hadd := add_memo_any W2 mp p jp wFile ⟨[], [], 0, false⟩ ⟨[], 0, false⟩ ⟨[], 0, 0, false⟩ Sm Sj Sd (.slice (some ⟨w2.heap.size, 0, none⟩) 2 2) wL hsys ⟨by decide, by decide, by decide, by decide, by decide⟩ (by decide) (by rw [wFile_size]; decide) (by rw [wFile_size]; decide) (by decide) (by decide)
    (fun w' _ => .inl (by decide)) (fun p hp => (by cases hp)) (by decide) (by decide) (by decide) (by decide) (own_sl hrow (prsV_one _)) (by
      intro p hp
      simp only [wL, List.mem_cons, List.not_mem_nil, or_false] at hp
      rcases hp with rfl | rfl
      · exact ⟨⟨by decide, by decide⟩, ⟨by decide, by decide⟩⟩
      · exact ⟨⟨by decide, by decide⟩, ⟨by decide, by decide⟩⟩) (by decide) (by decide)
  obtain ⟨m1, j1, d1, hres, hkn⟩ := w_lay
  rw [hres] at hadd
  have HAD := Lib.hid hadd
  have HFW := Lib.hid hFW
  have HKN := Lib.hid hkn
  clear hadd hrow hsys hFW hres hkn
  rw [hW2]
  refine HAD.out.mono ?_
  rintro e w3 ⟨rfl, Sm3, Sj3, Sd3, sys3, hf3, hm3, hj3, hd3⟩
  have s1 := standin_any w3 mp p jp wFile m1 Sm3 3 ⟨by decide, by decide⟩ sys3.memo
  have s2 := standin_any w3 mp p jp wFile m1 Sm3 7 ⟨by decide, by decide⟩ sys3.memo
  have s3 := standin_any w3 mp p jp wFile m1 Sm3 5 ⟨by decide, by decide⟩ sys3.memo
  have s4 := mlen_any w3 mp p jp wFile m1 Sm3 sys3.memo
  rw [HKN.out, show klook wL 3 = some 9 from by decide] at s1
  rw [HKN.out, show klook wL 7 = some 0 from by decide] at s2
  rw [HKN.out, show klook wL 5 = none from by decide] at s3
  rw [HKN.out, show wL.length = 2 from rfl] at s4
  have H1 := Lib.hid s1
  have H2 := Lib.hid s2
  have H3 := Lib.hid s3
  have H4 := Lib.hid s4
  have HF3 := Lib.hid hf3
  have HSZ : Hid (∀ k, Sd k → w.heap.size ≤ k) := HS1
  clear s1 s2 s3 s4 sys3 hm3 hj3 hd3 hf3 hW2 HAD
  go_wp2_with fail
  refine H1.out.mono ?_
  rintro e w4 ⟨rfl, rfl⟩
  go_wp2_with fail
  refine H2.out.mono ?_
  rintro e w4 ⟨rfl, rfl⟩
  go_wp2_with fail
  refine H3.out.mono ?_
  rintro e w4 ⟨rfl, rfl⟩
  go_wp2_with fail
  refine H4.out.mono ?_
  rintro e w4 ⟨rfl, rfl⟩
  go_wp2
  go_ret
  have hw1 : w.heap.size ≤ w1.heap.size := HB1.out.size
  refine ⟨rfl, ((Fr.same' HB1.out).trans' HF2.out |>.trans' HFW.out).trans HF3.out (fun i hi h => ?_)⟩
  rcases h with h | h | h
  · have := HM2.out i h; omega
  · have := HJ2.out i h; omega
  · have := HSZ.out i h; omega
end Go.Proofs.YtbbplhpkhholeaaGreatDoor
