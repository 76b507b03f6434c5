/- A journal: record, Len, payload. -/
import Derived.Test.YtbbplhpkhholeaaGreatDoorJn2
import Derived.Test.YtbbplhpkhholeaaGreatDoorOctet4
import Derived.StillTailTactics
set_option linter.unusedVariables false
set_option linter.unusedSimpArgs false
set_option maxRecDepth 20000
namespace Go.Proofs.YtbbplhpkhholeaaGreatDoor
open Go.RowKit Go.Maps

theorem record_any (w : World) (v : Value) (xs : List Int) (h : SlN w .u8 v xs) (hb : Byts xs) (hl : xs.length ≤ 1099511627776) :
    Calls Tryz.prog 167 #[v] w (RetB w (recB xs)) := by
  have hc := conv_any h
  have hsz : (strOfNums xs).size = xs.length := by rw [← strN_length, strN_of_nums hb]
  have ht := putText_any w (.slice none 0 0) [] (strOfNums xs) (SlN.nil w .u8) (by simp) (by omega)
  rw [hsz, strN_of_nums hb, List.nil_append] at ht
  have hh := fun w' (h' : SlN w' .u8 v xs) => hash_any w' v xs h' hb (by omega)
  have hr := hashB_range xs
  have hu : (uintB xs.length).length ≤ 10 := (uintB_len (x := xs.length) ⟨by omega, by omega⟩).2
  obtain ⟨A, c, rfl, hlc, hcc, _⟩ := h.form
  have HT := Lib.hid ht
  have HH := Lib.hid hh
  have H := Lib.hid h
  have HR := Lib.hid hr
  clear ht hh h hr hsz
  go_enter Tryz.func167, Tryz.ntmps167
  go_wp2_with fail
  refine HT.out.mono ?_
  rintro e w1 ⟨v1, rfl, ho1, hb1⟩
  have HO1 := Lib.hid ho1
  have HB1 := Lib.hid hb1
  clear ho1 hb1
  go_wp2_with fail
  refine (HH.out w1 (H.out.same HB1.out)).mono ?_
  rintro e w2 ⟨rfl, rfl⟩
  go_wp2_with fail
  refine (putWord_any w1 v1 _ (hashB xs) (SlN.of_own HO1.out) (by simp; omega) HR.out).mono ?_
  rintro e w2 ⟨v2, rfl, ho2, hb2⟩
  have HO2 := Lib.hid ho2
  have HB2 := Lib.hid hb2
  clear ho2 hb2
  go_wp2
  go_ret
  exact ⟨v2, rfl, own_base HO2.out HB1.out.size, HB1.out.trans (HB2.out.mono HB1.out.size)⟩
theorem jlen_any (w : World) (q p : Nat) (file : ByteArray) (j : Jn) (S : Nat → Prop) (h : IsJn w q p file j S) :
    Calls Tryz.prog 90 #[.pointer (some ⟨q, 0, none⟩)] w fun en w' => en = .returned (.int .i64 j.recs.length) ∧ w = w' := by
  obtain ⟨va, vp, s1, s2, s3, _⟩ := h
  obtain ⟨A, c, rfl, l1, l2, _⟩ := Sl.of_own s3 (partsV_one _)
  have c3 : w.cell? ⟨q, 3, none⟩ = some (.slice A j.recs.length c) := s1.cell 3 rfl
  clear s1 s2 s3
  go_enter Tryz.func90, Tryz.ntmps90
  go_wp2
  go_ret
  exact ⟨rfl, rfl⟩
theorem offs_at : ∀ (recs : List (List Int)) (k0 : Int) (k : Nat) (r : List Int), recs[k]? = some r → ∃ a : Nat, (offs k0 recs)[k]? = some (k0 + a, k0 + a + r.length) ∧ (recs.flatten.drop a).take r.length = r ∧ a + r.length ≤ recs.flatten.length
  | [], _, k, r, h => by simp at h
  | x :: rs, k0, 0, r, h => by
    simp only [List.getElem?_cons_zero, Option.some.injEq] at h
    subst h
    exact ⟨0, by simp [offs], by simp, by simp⟩
  | x :: rs, k0, k + 1, r, h => by
    simp only [List.getElem?_cons_succ] at h
    obtain ⟨a, h1, h2, h3⟩ := offs_at rs (k0 + x.length) k r h
    refine ⟨x.length + a, ?_, ?_, ?_⟩
    · simp only [offs, List.getElem?_cons_succ, h1, Option.some.injEq, Prod.mk.injEq]
      omega
    · rw [List.flatten_cons, List.drop_append]
      simp only [Nat.add_sub_cancel_left]
      rw [List.drop_eq_nil_of_le (by omega), List.nil_append]
      exact h2
    · simp only [List.flatten_cons, List.length_append]; omega
theorem partsV_at : ∀ (ps : List (Int × Int)) (k : Nat) (a b : Int), ps[k]? = some (a, b) → (partsV ps)[k * 2]? = some (.int .i64 a) ∧ (partsV ps)[k * 2 + 1]? = some (.int .i64 b)
  | [], k, a, b, h => by simp at h
  | p :: ps, 0, a, b, h => by
    simp only [List.getElem?_cons_zero, Option.some.injEq] at h
    subst h
    simp [partsV]
  | p :: ps, k + 1, a, b, h => by
    simp only [List.getElem?_cons_succ] at h
    have := partsV_at ps k a b h
    have e : partsV (p :: ps) = .int .i64 p.1 :: .int .i64 p.2 :: partsV ps := by simp [partsV]
    rw [e, show (k + 1) * 2 = k * 2 + 1 + 1 from by omega]
    simpa using this
theorem payload_any (w : World) (q p : Nat) (file : ByteArray) (j : Jn) (S : Nat → Prop) (k : Nat) (r : List Int) (h : IsJn w q p file j S) (hk : j.recs[k]? = some r) (hl : j.all.length ≤ 1099511627776) :
    Calls Tryz.prog 91 #[.pointer (some ⟨q, 0, none⟩), .int .i64 k] w (RetB w r) := by
  obtain ⟨va, vp, s1, s2, s3, _⟩ := h
  obtain ⟨a, o1, o2, o3⟩ := offs_at j.recs 0 k r hk
  have hkl : k < j.recs.length := (List.getElem?_eq_some_iff.1 hk).1
  obtain ⟨A, c, rfl, l1, l2, l3, l4, l5, l6⟩ := Sl.of_own s3 (partsV_one _)
  obtain ⟨pv1, pv2⟩ := partsV_at _ _ _ _ o1
  have hAs : ∃ b off, A = some ⟨b, off, none⟩ ∧ w.cell? ⟨b, off + k * 2, none⟩ = some (.int .i64 a) ∧ w.cell? ⟨b, off + k * 2 + 1, none⟩ = some (.int .i64 (a + r.length)) := by
    cases A with
    | none => have := l4 rfl; omega
    | some ad =>
      obtain ⟨bb, oo, sp⟩ := ad
      obtain ⟨e1, e2⟩ := l6 _ rfl
      simp only at e1
      subst e1
      have e3 := e2 _ _ pv1
      have e4 := e2 _ _ pv2
      rw [Int.zero_add] at e3 e4
      exact ⟨bb, oo, rfl, e3, by rw [Nat.add_assoc]; exact e4⟩
  obtain ⟨b, off, rfl, cA, cB⟩ := hAs
  have sva := SlN.of_own s2
  obtain ⟨Aa, ca, rfl, hla, hca, _⟩ := sva.form
  have c2 : w.cell? ⟨q, 2, none⟩ = some (.slice Aa j.all.length ca) := s1.cell 2 rfl
  have c3 : w.cell? ⟨q, 3, none⟩ = some (.slice (some ⟨b, off, none⟩) j.recs.length c) := s1.cell 3 rfl
  have o3' : a + r.length ≤ j.all.length := o3
  have o2' : (j.all.drop a).take r.length = r := o2
  obtain ⟨W1, hW1⟩ : ∃ W1, w.alloc (.cells #[.int .i64 a, .int .i64 (a + r.length)] 189) = W1 := ⟨_, rfl⟩
  have hf1 : Fr (fun _ => False) w W1 := by rw [← hW1]; exact (Fr.refl _ w).alloc _
  have c2' : W1.cell? ⟨q, 2, none⟩ = some (.slice Aa j.all.length ca) := hf1.cell c2 (fun h => h)
  have e0 : W1.cell? ⟨w.heap.size, 0, none⟩ = some (.int .i64 a) := by rw [← hW1]; simp
  have e1 : W1.cell? ⟨w.heap.size, 1, none⟩ = some (.int .i64 (a + r.length)) := by rw [← hW1]; simp
  have sv1 : SlN W1 .u8 (.slice Aa j.all.length ca) j.all := sva.fr hf1 (fun _ _ h => h.elim)
  have hs1 : w.heap.size ≤ W1.heap.size := hf1.size
  have hbl : Below w.heap.size w W1 := by rw [← hW1]; exact (Below.refl _ w).alloc (Nat.le_refl _) _
  clear s1 s2 s3 l6 sva l5 c2
  have HB := Lib.hid hbl
  have HS1 := Lib.hid sv1
  have HO2 := Lib.hid o2'
  clear sv1 o1 o2 o2' pv1 pv2
  go_enter Tryz.func91, Tryz.ntmps91
  go_wp2_with fail
  clear c3 cA cB hW1
  have sv1 := HS1.out
  have o2' := HO2.out
  have FIN : ∀ v2, SlN W1 .u8 v2 r → Calls Tryz.prog 49 #[v2] W1.drew (fun en w' => ∃ v, en = .returned v ∧ Hid (w'.ownsRow w.heap.size 5 1 v r.length (numsV .u8 r)) ∧ Hid (Below w.heap.size w w')) := by
    intro v2 h2
    have h3 : SlN W1.drew .u8 v2 r := h2.drewN 1
    refine (clone_any W1.drew v2 r h3 (by omega)).mono ?_
    rintro e w2 ⟨v, rfl, h4, h5⟩
    exact ⟨v, rfl, Lib.hid (own_base h4 hs1), Lib.hid ((hbl.trans (below_drewN (Below.refl _ _) 1)).trans (h5.mono hs1))⟩
  have hrl : r.length ≤ 1099511627776 := by omega
  have F := Lib.hid FIN
  have SV := Lib.hid sv1
  clear FIN hbl
  cases Aa with
  | none =>
    have hz : ca = 0 ∧ j.all.length ≤ ca := by
      obtain ⟨_, _, e, _, h2, _, h3, _⟩ := SV.out
      cases e
      exact ⟨h3 rfl, h2⟩
    have hr0 : r = [] := List.eq_nil_of_length_eq_zero (by omega)
    have ha0 : a = 0 := by omega
    subst hr0 ha0
    obtain ⟨hz1, hz2⟩ := hz
    subst hz1
    have hal : j.all.length = 0 := by omega
    rw [hal] at c2'
    clear sv1 SV o3 o2'
    simp only [List.length_nil, Int.natCast_zero, Int.add_zero] at e0 e1 ⊢
    go_still_tail 9, (by kernel_rfl)
    change wpList _ _ _ _ _ (World.drew W1)
    go_wp2_with fail
    refine (F.out _ (SlN.nil _ _)).mono ?_
    rintro e w2 ⟨v, rfl, h4, h5⟩
    go_wp2
    go_ret
    exact ⟨v, rfl, h4.out, h5.out⟩
  | some ad =>
    obtain ⟨bb, oo, sp⟩ := ad
    have hsp : sp = none := by
      obtain ⟨_, _, e, _, _, _, _, _, h6⟩ := sv1
      cases e
      exact (h6 _ rfl).1
    subst hsp
    clear sv1
    have hlo : (0 : Int) ≤ a := by omega
    have hhi : (a : Int) ≤ a + r.length := by omega
    have hcp : (a : Int) + r.length ≤ ca := by omega
    have htn : ((a : Int) + r.length).toNat = a + r.length := by omega
    have htn2 : (a : Int).toNat = a := by omega
    by_cases hca2 : ca = a
    · have hr0 : r.length = 0 := by omega
      have HR : Hid (r = []) := Lib.hid (List.eq_nil_of_length_eq_zero hr0)
      have HX : Hid (SlN W1 .u8 (.slice (some ⟨bb, oo, none⟩) 0 0) r) := Lib.hid (by rw [HR.out]; exact SlN.empty _ _ _ _ (fun ad e => by cases e; rfl) (by omega) (fun e => by cases e))
      go_still_tail 9, (by kernel_rfl)
      change wpList _ _ _ _ _ (World.drew W1)
      go_wp2_with fail
      refine (F.out _ HX.out).mono ?_
      rintro e w2 ⟨v, rfl, h4, h5⟩
      go_wp2
      go_ret
      exact ⟨v, rfl, h4.out, h5.out⟩
    · have HX : Hid (SlN W1 .u8 (.slice (some ⟨bb, oo + a, none⟩) r.length (ca - a)) r) := Lib.hid (by
        have h1 := SlN.drop SV.out (n := a) (by omega)
        have h1' : SlN W1 .u8 (.slice (some ⟨bb, oo + a, none⟩) (j.all.drop a).length (ca - a)) (j.all.drop a) := by rw [List.length_drop]; exact h1
        have h2 := SlN.take h1' (n := r.length) (by rw [List.length_drop]; omega) (c' := ca - a) (by omega) (Nat.le_refl _)
        rw [o2'] at h2
        exact h2)
      go_still_tail 9, (by kernel_rfl)
      change wpList _ _ _ _ _ (World.drew W1)
      go_wp2_with fail
      refine (F.out _ HX.out).mono ?_
      rintro e w2 ⟨v, rfl, h4, h5⟩
      go_wp2
      go_ret
      exact ⟨v, rfl, h4.out, h5.out⟩
end Go.Proofs.YtbbplhpkhholeaaGreatDoor
