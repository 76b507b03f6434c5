/- A journal: Append. -/
import Derived.Test.YtbbplhpkhholeaaGreatDoorJn3
set_option linter.unusedVariables false
set_option linter.unusedSimpArgs false
set_option maxRecDepth 20000
namespace Go.Proofs.YtbbplhpkhholeaaGreatDoor
open Go.RowKit Go.Maps

/-- Append, plainly. -/
def Jn.append (j : Jn) (d : Dk) (file : ByteArray) (xs : List Int) : Jn × Dk × Int :=
  if j.cut = true then (j, d, 6) else if 262144 < xs.length then (j, d, 3) else
  if (d.append file (recB xs)).2 = 0 then ({ j with recs := j.recs ++ [xs], size := j.size + (recB xs).length }, (d.append file (recB xs)).1, 0)
  else ({ j with cut := decide ((d.append file (recB xs)).2 = 6) }, (d.append file (recB xs)).1, (d.append file (recB xs)).2)
theorem recB_len (xs : List Int) (hb : Byts xs) (h : xs.length ≤ 262144) : (recB xs).length ≤ xs.length + 18 ∧ Byts (recB xs) := by
  have hu : (uintB xs.length).length ≤ 10 := (uintB_len (x := xs.length) ⟨by omega, by omega⟩).2
  refine ⟨?_, ?_⟩
  · simp only [recB, List.length_append, wordB_len]
    omega
  · exact ((uintB_byts _).append hb).append (wordB_byts _)
theorem own_new {w : World} {B n g : Nat} {size : Nat} {v : Value} {vs : List Value} {e : TypeId} (h : w.ownsRow B e size v n vs) (hg : v.ownBlock = some g) : B ≤ g := by
  rcases h.2 with ⟨rfl, _⟩ | ⟨g', cap, cur, rfl, hB, hh, _⟩
  · cases hg
  · simp only [Value.ownBlock, Option.map_some, Option.some.injEq] at hg
    subst hg
    exact hB
theorem IsJn.fr {S T : Nat → Prop} {w w' : World} {q p : Nat} {file : ByteArray} {j : Jn} (h : IsJn w q p file j S) (hf : Fr T w w') (hS : ∀ k, S k → ¬ T k) : IsJn w' q p file j S := by
  obtain ⟨va, vp, s1, s2, s3, s4, s5, s6, s7, s8⟩ := h
  exact ⟨va, vp, s1.fr hf (hS _ s5), own_fr s2 hf (fun g hg => hS g (s6 g hg)), own_fr s3 hf (fun g hg => hS g (s7 g hg)), s4, s5, s6, s7, fun k hk => Nat.lt_of_lt_of_le (s8 k hk) hf.size⟩
theorem jappend_any (w : World) (q p : Nat) (file : ByteArray) (j : Jn) (d : Dk) (Sj Sd : Nat → Prop) (v : Value) (xs : List Int) (h : IsJn w q p file j Sj) (hd : IsDisk w p d Sd) (hdk : DkOk d) (hw : d.writes + 5000000 ≤ 4611686018427387904) (hfile : file.size ≤ maxLen)
    (hap : ∀ k, Sj k → ¬ Sd k) (hv : SlN w .u8 v xs) (hb : Byts xs) (hvS : ∀ g, v.ownBlock = some g → ¬ Sd g)
    (h1 : j.all.length ≤ 549755813888) (h2 : j.recs.length ≤ 549755813888) (h3 : 0 ≤ j.size) (h5 : j.size ≤ 549755813888) :
    Calls Tryz.prog 132 #[.pointer (some ⟨q, 0, none⟩), v] w fun en w' => en = .returned (.int .i64 (j.append d file xs).2.2) ∧
      ∃ Sj' Sd', IsJn w' q p file (j.append d file xs).1 Sj' ∧ IsDisk w' p (j.append d file xs).2.1 Sd' ∧ Fr (fun k => Sj k ∨ Sd k) w w' ∧ (∀ k, Sj' k → ¬ Sd' k) ∧ (∀ k, Sj' k → Sj k ∨ w.heap.size ≤ k) ∧ ∀ k, Sd' k → Sd k ∨ w.heap.size ≤ k := by
  obtain ⟨va, vp, s1, s2, s3, s4, s5, s6, s7, s8⟩ := id h
  obtain ⟨A, c, rfl, hlc, hcc, _⟩ := hv.form
  have c0 : w.cell? ⟨q, 0, none⟩ = some (.pointer (some ⟨p, 0, none⟩)) := s1.cell 0 rfl
  have c1 : w.cell? ⟨q, 1, none⟩ = some (.string file) := s1.cell 1 rfl
  have c5 : w.cell? ⟨q, 5, none⟩ = some (.bool j.cut) := s1.cell 5 rfl
  have H := Lib.hid h
  have HD := Lib.hid hd
  have hd7 : ∀ k, Sd k → k < w.heap.size := by
    obtain ⟨_, _, _, _, _, _, _, _, h⟩ := hd
    exact h
  have HV := Lib.hid hv
  cases hcut : j.cut with
  | true =>
    have e : j.append d file xs = (j, d, 6) := by unfold Jn.append; rw [if_pos hcut]
    have HE := Lib.hid e
    rw [hcut] at c5
    clear h hd hv s1 s2 s3 e
    go_enter Tryz.func132, Tryz.ntmps132
    go_wp2
    go_ret
    rw [HE.out]
    exact ⟨rfl, Sj, Sd, H.out, HD.out, Fr.refl _ _, hap, fun k hk => .inl hk, fun k hk => .inl hk⟩
  | false =>
    rw [hcut] at c5
    by_cases hlong : 262144 < xs.length
    · have e : j.append d file xs = (j, d, 3) := by unfold Jn.append; rw [if_neg (by rw [hcut]; simp), if_pos hlong]
      have HE := Lib.hid e
      clear h hd hv s1 s2 s3 e
      go_enter Tryz.func132, Tryz.ntmps132
      go_wp2
      go_ret
      rw [HE.out]
      exact ⟨rfl, Sj, Sd, H.out, HD.out, Fr.refl _ _, hap, fun k hk => .inl hk, fun k hk => .inl hk⟩
    · obtain ⟨hrl, hrb⟩ := recB_len xs hb (by omega)
      have hrec := record_any w (.slice A xs.length c) xs hv hb (by omega)
      have HR := Lib.hid hrec
      clear h hd hv s1 s2 s3 hrec
      go_enter Tryz.func132, Tryz.ntmps132
      go_wp2_with fail
      refine HR.out.mono ?_
      rintro e w1 ⟨v1, rfl, ho1, hb1⟩
      have sl1 := SlN.of_own ho1
      obtain ⟨A1, k1, rfl, hlc1, hcc1, _⟩ := sl1.form
      have hf1 : Fr (fun _ => False) w w1 := Fr.of_same hb1
      have c0' : w1.cell? ⟨q, 0, none⟩ = some (.pointer (some ⟨p, 0, none⟩)) := hf1.cell c0 (fun h => h)
      have c1' : w1.cell? ⟨q, 1, none⟩ = some (.string file) := hf1.cell c1 (fun h => h)
      have HO1 := Lib.hid ho1
      have HF1 := Lib.hid hf1
      have SL1 := Lib.hid sl1
      clear ho1 hb1 sl1 hf1 c0 c1 c5
      go_wp2_with fail
      go_still_tail 9, (by kernel_rfl)
      change wpList _ _ _ _ _ (World.drew w1)
      go_wp2_with fail
      have hfd : Fr (fun _ => False) w w1.drew := HF1.out.drew
      refine (append_any w1.drew p d Sd file _ (recB xs) (HD.out.fr hfd (fun _ _ h => h)) hdk hw hfile (SL1.out.drewN 1) hrb ?_).mono ?_
      · intro g hg hs
        have := own_new HO1.out hg
        have := hd7 g hs
        omega
      rintro e w2 ⟨rfl, Sd', hi2, hf2, hs2⟩
      have hf02 : Fr Sd w w2 := (HF1.out.drew.mono (fun _ _ h => h.elim)).trans' hf2
      have hj2 : IsJn w2 q p file j Sj := H.out.fr hf02 hap
      have hsz1 : w.heap.size ≤ w1.drew.heap.size := HF1.out.size
      have hsz2 : w1.drew.heap.size ≤ w2.heap.size := hf2.size
      have HI2 := Lib.hid hi2
      have HF02 := Lib.hid hf02
      have HS2 : Hid (∀ k, Sd' k → Sd k ∨ w.heap.size ≤ k) := Lib.hid fun k hk => (hs2 k hk).imp id (fun h => Nat.le_trans hsz1 h)
      have HJ2 := Lib.hid hj2
      have hdis : ∀ k, Sj k → ¬ Sd' k := fun k hk hd => (HS2.out k hd).elim (hap k hk) (fun h => by have := s8 k hk; omega)
      have HDI := Lib.hid hdis
      have hd8 : ∀ k, Sd' k → k < w2.heap.size := by
        obtain ⟨_, _, _, _, _, _, _, _, h⟩ := hi2
        exact h
      have HD8 := Lib.hid hd8
      have HAP : Hid (j.append d file xs = (if (d.append file (recB xs)).2 = 0 then ({ j with recs := j.recs ++ [xs], size := j.size + (recB xs).length }, (d.append file (recB xs)).1, 0)
        else ({ j with cut := decide ((d.append file (recB xs)).2 = 6) }, (d.append file (recB xs)).1, (d.append file (recB xs)).2))) := Lib.hid (by unfold Jn.append; rw [if_neg (by rw [hcut]; simp), if_neg hlong])
      have SL2 : Hid (SlN w2 .u8 (.slice A xs.length c) xs) := Lib.hid (HV.out.fr hf02 (fun g _ hs e => hvS g e hs))
      obtain ⟨dd, hdd⟩ : ∃ dd, d.append file (recB xs) = dd := ⟨_, rfl⟩
      rw [hdd] at HI2 HAP ⊢
      obtain ⟨d2, x⟩ := dd
      simp only at HI2 HAP ⊢
      obtain ⟨va2, vp2, t1, t2, t3, t4, t5, t6, t7, t8⟩ := id hj2
      have k5 : w2.cell? ⟨q, 5, none⟩ = some (.bool j.cut) := t1.cell 5 rfl
      have g5 := t1.frozen 5
      clear hi2 hf2 hs2 hf02 hj2 hdis hdd t1 t2 t3 hd8
      by_cases he : x = 0
      · subst he
        have HAQ : Hid (j.append d file xs = ({ j with recs := j.recs ++ [xs], size := j.size + (recB xs).length }, d2, 0)) := Lib.hid (by rw [HAP.out]; simp)
        clear HAP
        go_wp2_with fail
        refine (add_any w2 q p file j Sj _ xs (recB xs).length HJ2.out SL2.out hb (by omega) (by omega) h3 (by omega) (by omega)).mono ?_
        rintro e w3 ⟨rfl, Sj', hj3, hf3, hs3⟩
        have HJ3 := Lib.hid hj3
        have HF3 := Lib.hid hf3
        have HS3 := Lib.hid hs3
        clear hj3 hf3 hs3
        go_wp2
        go_ret
        rw [HAQ.out]
        refine ⟨rfl, Sj', Sd', HJ3.out, HI2.out.fr HF3.out (fun k hk hj => HDI.out k hj hk), (HF02.out.mono (fun _ _ h => .inr h)).trans HF3.out (fun i _ h => .inl h), ?_, ?_, HS2.out⟩
        · intro k hk hd
          rcases HS3.out k hk with h | h
          · exact HDI.out k h hd
          · have := HD8.out k hd
            omega
        · exact fun k hk => (HS3.out k hk).imp id (fun h => by omega)
      · have hxb : (x == 0) = false := beq_false_of_ne he
        have hxd : (x == 6) = decide (x = 6) := rfl
        have HAQ : Hid (j.append d file xs = ({ j with cut := decide (x = 6) }, d2, x)) := Lib.hid (by rw [HAP.out, if_neg he])
        clear HAP
        go_wp2
        go_ret
        rw [HAQ.out]
        have fq : Fr (fun i => i = q) w2 (w2.setCell ⟨q, 5, none⟩ (.bool (decide (x = 6)))) := (Fr.refl _ _).set _ _
        refine ⟨rfl, Sj, Sd', ?_, HI2.out.fr fq (fun k hk e => HDI.out k (e ▸ t5) hk), (HF02.out.mono (fun _ _ h => .inr h)).trans fq (fun i _ h => .inl (h ▸ t5)), HDI.out, fun k hk => .inl hk, HS2.out⟩
        obtain ⟨va3, vp3, u1, u2, u3, u4, u5, u6, u7, u8⟩ := HJ2.out
        have n1 := row_ne_st u2 u1 (by decide)
        have n2 := row_ne_st u3 u1 (by decide)
        refine ⟨va3, vp3, ?_, own_fr u2 fq (fun g hg e => n1 (e ▸ hg)), own_fr u3 fq (fun g hg e => n2 (e ▸ hg)), u4, u5, u6, u7, fun k hk => by have := u8 k hk; have := fq.size; omega⟩
        have := u1.set 5 (.bool (decide (x = 6)))
        simpa using this
end Go.Proofs.YtbbplhpkhholeaaGreatDoor
