/- A memo: write, where no merge is due. -/
import Derived.Test.YtbbplhpkhholeaaGreatDoorMemo2
set_option linter.unusedVariables false
set_option linter.unusedSimpArgs false
set_option maxRecDepth 20000
namespace Go.Proofs.YtbbplhpkhholeaaGreatDoor
open Go.RowKit Go.Maps Go.Shelf Go.Sort

theorem klook_none {ps : List Pr} {k : Int} : klook ps k = none ↔ ∀ p ∈ ps, p.1 ≠ k := by
  unfold klook
  rw [Option.map_eq_none_iff, List.find?_eq_none]
  simp
theorem klook_append (ps qs : List Pr) (k : Int) : klook (ps ++ qs) k = (klook ps k).or (klook qs k) := by
  unfold klook
  rw [List.find?_append]
  cases List.find? (fun p => decide (p.1 = k)) ps <;> simp
theorem klook_one (p : Pr) (k : Int) : klook [p] k = if p.1 = k then some p.2 else none := by
  unfold klook
  by_cases h : p.1 = k <;> simp [h]
theorem ukeyLit (k : Int) : WideAt.IsKeyLit (ukey k) := trivial
theorem KnownIn.put {D : DataW Value} {ps : List Pr} (h : KnownIn D ps) (hT : Tidy D) (hsm : ∀ k, (look D k).isSome = has D k) (p : Pr) (hp : U64 p.1) (hn : klook ps p.1 = none) : KnownIn (D.put (ukey p.1) (.held (.int .u64 p.2))) (ps ++ [p]) := by
  refine ⟨?_, ?_, fun k hk => ?_⟩
  · rw [size_put hT, ← hsm, h.at_ p.1 hp, hn, h.size]
    simp
  · have e : keysP (ps ++ [p]) = keysP ps ++ [p.1] := by simp [keysP]
    rw [e, List.nodup_append]
    refine ⟨h.nodup, by simp, ?_⟩
    intro x hx y hy exy
    simp only [List.mem_singleton] at hy
    subst hy; subst exy
    obtain ⟨q, hq, e⟩ := List.mem_map.1 hx
    exact klook_none.1 hn q hq e
  · rw [klook_append, klook_one]
    by_cases e : p.1 = k
    · subst e
      rw [look_put_same hT.isMap (ukeyLit _), hn]
      simp
    · rw [look_put_other (fun h => e (ukey_inj h).symm), h.at_ k hk, if_neg e]
      simp
theorem remove_nil (w : World) (mp : Nat) : Calls Tryz.prog 47 #[.pointer (some ⟨mp, 0, none⟩), .slice none 0 0] w fun en w' => en = .returned (.int .i64 0) ∧ w = w' := by
  have hs := fun fv => Tryz.slices_SortFunc_none (α := Int) none 0 fv w
  have HS := Lib.hid hs
  clear hs
  go_enter Tryz.func47, Tryz.ntmps47
  go_wp2_with fail
  refine (HS.out _).mono ?_
  rintro e w1 ⟨rfl, rfl⟩
  go_wp2
  go_loopw [12] (fun t12 wr => t12 = .int .i64 0 ∧ wr = w1) (fun _ _ => 0)
  case atStart => exact ⟨rfl, rfl⟩
  case round =>
    obtain ⟨rfl, rfl⟩ := hrel
    go_wp2
    go_ret
    exact ⟨rfl, rfl⟩
theorem runB_byts (ps : List Pr) : Byts (runB ps) := by
  have hh : Byts (headB ps) := by
    refine (uintB_byts _).append ?_
    intro y hy
    obtain ⟨q, _, hq⟩ := List.mem_flatMap.1 hy
    exact ((wordB_byts q.1).append (wordB_byts q.2)) y hq
  exact hh.append (wordB_byts _)
def writeR (m : Mm) (j : Jn) (d : Dk) (file : ByteArray) (fresh : List Pr) : Mm × Jn × Dk × Int :=
  let r := layR m j d file (runB (sortP fresh)) m.parts
  if r.2.2.2 ≠ 0 then r else ({ r.1 with known := m.known ++ fresh }, r.2.1, r.2.2.1, 0)
set_option maxHeartbeats 3200000 in
theorem write_any (w : World) (mp dp jp : Nat) (file : ByteArray) (m : Mm) (j : Jn) (d : Dk) (Sm Sj Sd : Nat → Prop) (vf : Value) (fresh : List Pr) (hs : Sys w mp dp jp file m j d Sm Sj Sd)
    (hdk : DkOk d) (hw : d.writes + 10000000 ≤ 4611686018427387904) (hf : file.size ≤ 1000) (hfl : file.size ≤ maxLen) (hl0 : 0 ≤ m.last) (hl1 : m.last ≤ 4000000000) (hn : ∀ w', Fr (fun _ => False) w w' → NumOk w' (m.last + 1).toNat)
    (hnum : ∀ p ∈ m.parts, 0 ≤ p.1 ∧ p.1 ≤ 4294967296) (h1 : j.all.length ≤ 549755813888) (h2 : j.recs.length ≤ 549755813888) (h3 : 0 ≤ j.size) (h5 : j.size ≤ 549755813888)
    (hv : SlP w vf fresh) (hp : OkP fresh) (hvS : ∀ g, vf.ownBlock = some g → ¬ Sm g ∧ ¬ Sj g ∧ ¬ Sd g) (hmk : makeR fresh = (0, runB (sortP fresh))) (hnew : ∀ p ∈ fresh, klook m.known p.1 = none) (hnd : (keysP fresh).Nodup)
    (hpl : m.parts.length < 4) (hkl : m.known.length + fresh.length ≤ 1048576) :
    Calls Tryz.prog 48 #[.pointer (some ⟨mp, 0, none⟩), vf] w fun en w' => en = .returned (.int .i64 (writeR m j d file fresh).2.2.2) ∧
      ∃ Sm' Sj' Sd', Sys w' mp dp jp file (writeR m j d file fresh).1 (writeR m j d file fresh).2.1 (writeR m j d file fresh).2.2.1 Sm' Sj' Sd' ∧ Fr (fun k => Sm k ∨ Sj k ∨ Sd k) w w' ∧
        (∀ k, Sm' k → Sm k ∨ w.heap.size ≤ k) ∧ (∀ k, Sj' k → Sj k ∨ w.heap.size ≤ k) ∧ (∀ k, Sd' k → Sd k ∨ w.heap.size ≤ k) := by
  obtain ⟨mb, D, vp, Sp, q1, q2, q3, q4, q5, q5', q6, q7, q8⟩ := id hs.memo
  have hds : ∀ k, Sd k → k < w.heap.size := by
    obtain ⟨_, _, _, _, _, _, _, _, h⟩ := hs.dk
    exact h
  have hjs : ∀ k, Sj k → k < w.heap.size := by
    obtain ⟨_, _, _, _, _, _, _, _, _, h⟩ := hs.jn
    exact h
  have hvp : ∃ A c, vp = .slice A m.parts.length c := by
    obtain ⟨_, _, hr, _⟩ := q5
    rcases hr.2 with ⟨rfl, h0⟩ | ⟨g, cap, cur, rfl, _⟩
    · exact ⟨none, 0, by rw [h0]⟩
    · exact ⟨_, _, rfl⟩
  obtain ⟨Ap, cp, rfl⟩ := hvp
  obtain ⟨Af, cf, rfl, hlf, hcf, hat⟩ := hv.form
  have hmake := make_any w (.slice Af fresh.length cf) fresh hv hp
  rw [hmk] at hmake
  have c4 : w.cell? ⟨mp, 4, none⟩ = some (.slice Ap m.parts.length cp) := q1.cell 4 rfl
  have hplb : ((m.parts.length : Int) == 4) = false := beq_false_of_ne (by omega)
  have HM := Lib.hid hmake
  have HS := Lib.hid hs
  have HV := Lib.hid hv
  have HAT := Lib.hid hat
  have HNW := Lib.hid hnew
  have HND := Lib.hid hnd
  have HP := Lib.hid hp
  have HN := Lib.hid hn
  have HC4 := Lib.hid c4
  clear hmake hs hv hat q1 q2 q3 q5 hnew hnd hp hn hmk
  go_enter Tryz.func48, Tryz.ntmps48
  go_wp2_with fail
  refine HM.out.mono ?_
  rintro e w1 ⟨v1, rfl, ho1, hb1⟩
  have hf1 : Fr (fun _ => False) w w1 := Fr.same' hb1
  have c4' : w1.cell? ⟨mp, 4, none⟩ = some (.slice Ap m.parts.length cp) := hf1.cell c4 (fun h => h)
  have sys1 : Sys w1 mp dp jp file m j d Sm Sj Sd := ⟨HS.out.memo.fr hf1 (fun _ _ h => h), HS.out.jn.fr hf1 (fun _ _ h => h), HS.out.dk.fr hf1 (fun _ _ h => h), HS.out.mj, HS.out.md, HS.out.jd⟩
  have hnewb : ∀ g, v1.ownBlock = some g → w.heap.size ≤ g ∧ g < w1.heap.size := fun g hg => ho1.lt g hg
  have hlay := lay_any w1 mp dp jp file m j d Sm Sj Sd v1 (.slice Ap m.parts.length cp) (runB (sortP fresh)) m.parts sys1 hdk hw hf hfl hl0 hl1 (HN.out w1 hf1) (SlN.of_own ho1) (runB_byts _)
    (fun g hg => ⟨fun h => by have := q8 g h; have := hnewb g hg; omega, fun h => by have := hds g h; have := hnewb g hg; omega, fun h => by have := hjs g h; have := hnewb g hg; omega⟩) (fun g hg => (hnewb g hg).2) (.inr ⟨rfl, c4'⟩) (by omega) hnum h1 h2 h3 h5
  have HL := Lib.hid hlay
  have HF1 := Lib.hid hf1
  have HNB := Lib.hid hnewb
  clear hlay hf1 sys1 ho1 hb1 hnewb c4
  go_wp2_with fail
  refine HL.out.mono ?_
  rintro e w2 ⟨rfl, Sm1, Sj1, Sd1, sys2, hf2, hm2, hj2, hd2⟩
  have hkn : (layR m j d file (runB (sortP fresh)) m.parts).1.known = m.known := by
    unfold layR
    simp only
    split
    · rfl
    · split <;> rfl
  have HWR : Hid (writeR m j d file fresh = if (layR m j d file (runB (sortP fresh)) m.parts).2.2.2 ≠ 0 then layR m j d file (runB (sortP fresh)) m.parts else ({ (layR m j d file (runB (sortP fresh)) m.parts).1 with known := m.known ++ fresh }, (layR m j d file (runB (sortP fresh)) m.parts).2.1, (layR m j d file (runB (sortP fresh)) m.parts).2.2.1, 0)) := Lib.hid (by unfold writeR; rfl)
  obtain ⟨r, hr⟩ : ∃ r, layR m j d file (runB (sortP fresh)) m.parts = r := ⟨_, rfl⟩
  rw [hr] at sys2 hkn HWR ⊢
  obtain ⟨m1, j1, d1, x⟩ := r
  simp only at sys2 hkn HWR ⊢
  have hF2 : Fr (fun k => Sm k ∨ Sj k ∨ Sd k) w w2 := (HF1.out.mono (fun _ _ h => h.elim)).trans' hf2
  have hw1 : w.heap.size ≤ w1.heap.size := HF1.out.size
  have hSm : ∀ k, Sm1 k → Sm k ∨ w.heap.size ≤ k := fun k hk => (hm2 k hk).elim .inl (fun h => .inr (h.elim (fun h => (HNB.out k h).1) (fun h => by omega)))
  have hSj : ∀ k, Sj1 k → Sj k ∨ w.heap.size ≤ k := fun k hk => (hj2 k hk).imp id (fun h => by omega)
  have hSd : ∀ k, Sd1 k → Sd k ∨ w.heap.size ≤ k := fun k hk => (hd2 k hk).imp id (fun h => by omega)
  have HF2 := Lib.hid hF2
  have HSM := Lib.hid hSm
  have HSJ := Lib.hid hSj
  have HSD := Lib.hid hSd
  have HS2 := Lib.hid sys2
  have HKN := Lib.hid hkn
  clear hf2 hm2 hj2 hd2 hF2 hSm hSj hSd hr hkn c4'
  by_cases hx : x = 0
  · subst hx
    have HWQ : Hid (writeR m j d file fresh = ({ m1 with known := m.known ++ fresh }, j1, d1, 0)) := Lib.hid (by rw [HWR.out, if_neg (by simp)])
    clear HWR
    obtain ⟨mb2, D2, vp2, Sp2, p1, p2, p3, p4, p5, p5', p6, p7, p8⟩ := id sys2.memo
    have hc3 : w2.cell? ⟨mp, 3, none⟩ = some (.map (some mb2)) := p1.cell 3 rfl
    have hne2 : mp ≠ mb2 := ownsMap_ne p2 p1
    rw [HKN.out] at p2 p3 p4
    have HP1 := Lib.hid p1
    have HP2 := Lib.hid p2
    have HP3 := Lib.hid p3
    have HP4 := Lib.hid p4
    have HP5 := Lib.hid p5
    have HP5' := Lib.hid p5'
    have HC3 := Lib.hid hc3
    have hzz : ∀ k, Sm1 k → k < w2.heap.size := p8
    have HZ := Lib.hid hzz
    clear sys2 p1 p2 p3 p4 p5 p5' hzz p8 hc3
    go_wp2_with fail
    go_loopw [74] (fun t74 wr => ∃ (k : Nat) (D' : DataW Value), k ≤ fresh.length ∧ t74 = .int .i64 k ∧ Hid (wr.ownsMap Tryz.prog 35 HR mb2 (m.known.length + k) D') ∧ Hid (KnownIn D' (m.known ++ fresh.take k)) ∧ Hid (Fr (fun i => i = mb2) w2 wr)) (fun i _ => fresh.length - (intOf i).toNat)
    case atStart => exact ⟨0, D2, Nat.zero_le _, rfl, HP2, Lib.hid (by simpa using HP3.out), Lib.hid (Fr.refl _ _)⟩
    case round =>
      obtain ⟨k, D', hk, rfl, hmp, hkn, hfr⟩ := hrel
      by_cases hlt : k < fresh.length
      · obtain ⟨x, hx⟩ : ∃ x, fresh[k]? = some x := ⟨_, List.getElem?_eq_getElem hlt⟩
        obtain ⟨b, off, rfl, e1, e2⟩ := HAT.out k x hx
        have hbS := hvS b rfl
        have hbw := World.block_lt_of_cell? w _ e1
        simp only at hbw
        have hbm : b ≠ mb2 := by
          intro e
          rcases HSM.out mb2 p7 with h | h
          · exact hbS.1 (e ▸ h)
          · omega
        have hFF : Fr (fun i => i = mb2) w2 wr := hfr.out
        have e1' := hFF.cell (HF2.out.cell e1 (fun h => h.elim hbS.1 (fun h => h.elim hbS.2.1 hbS.2.2))) hbm
        have e2' := hFF.cell (HF2.out.cell e2 (fun h => h.elim hbS.1 (fun h => h.elim hbS.2.1 hbS.2.2))) hbm
        have hux := HP.out x (List.mem_of_getElem? hx)
        obtain ⟨W1, hW1⟩ : ∃ W1, wr.alloc (.cells #[.int .u64 x.1, .int .u64 x.2] 68) = W1 := ⟨_, rfl⟩
        have hfW : Fr (fun _ => False) wr W1 := by rw [← hW1]; exact (Fr.refl _ _).alloc _
        have c3 : W1.cell? ⟨mp, 3, none⟩ = some (.map (some mb2)) := hfW.cell (hFF.cell HC3.out hne2) (fun h => h)
        have a0 : W1.cell? ⟨wr.heap.size, 0, none⟩ = some (.int .u64 x.1) := by rw [← hW1]; simp
        have a1 : W1.cell? ⟨wr.heap.size, 1, none⟩ = some (.int .u64 x.2) := by rw [← hW1]; simp
        have hmW : W1.drew.ownsMap Tryz.prog 35 HR mb2 (m.known.length + k) D' := ownsMap_fr hmp.out hfW.drew (fun h => h)
        obtain ⟨w3, u1, u2, u3⟩ := World.ownsMap.update hmW keyed_u Tryz.underlying88 (by simp only [maxLen]; omega) (keyOf_u hux.1) (val := .int .u64 x.2) (d := .held (.int .u64 x.2)) (ps := []) rfl
        have hkn' : KnownIn (D'.put (ukey x.1) (.held (.int .u64 x.2))) (m.known ++ fresh.take (k + 1)) := by
          have htk : fresh.take (k + 1) = fresh.take k ++ [x] := by rw [List.take_add_one, hx]; rfl
          rw [htk, ← List.append_assoc]
          refine hkn.out.put (hmW.tidy keyed_u) (look_some hmW keyed_u) x hux.1 ?_
          rw [klook_append, HNW.out x (List.mem_of_getElem? hx)]
          simp only [Option.none_or]
          rw [klook_none]
          intro p hp
          have hnd := HND.out
          unfold keysP at hnd
          rw [List.nodup_iff_pairwise_ne, List.pairwise_map, List.pairwise_iff_getElem] at hnd
          obtain ⟨i, hi, rfl⟩ := List.mem_iff_getElem.1 hp
          rw [List.length_take] at hi
          have hxk : fresh[k] = x := by rw [List.getElem?_eq_getElem hlt] at hx; cases hx; rfl
          rw [List.getElem_take, ← hxk]
          exact hnd i k (by omega) hlt (by omega)
        have HK3 := Lib.hid hkn'
        have HU2 := Lib.hid u2
        have hf3 : Fr (fun i => i = mb2) w2 w3 := ((hFF.trans (hfW.drew) (fun _ _ h => h.elim))).grown u3 (fun k e _ => by cases e; rfl)
        have HF3 := Lib.hid hf3
        have HU1 : Hid (W1.drew = W1.drew) := Lib.hid rfl
        clear hux e1 e2 hfW hmW u2 u3 hkn' hf3 hFF
        go_wp2_with fail
        go_still_tail 8, (by kernel_rfl)
        change wpList _ _ _ _ _ (World.drew W1)
        go_wp2
        go_roundw
        case rel => exact ⟨k + 1, _, by omega, by go_num, HU2, HK3, HF3⟩
        case measure => simp [intOf]; omega
      · have hkf : k = fresh.length := by omega
        subst hkf
        rw [List.take_of_length_le (Nat.le_refl _)] at hkn
        have hrm := remove_nil wr mp
        have HRM := Lib.hid hrm
        have sysF : Sys wr mp dp jp file { m1 with known := m.known ++ fresh } j1 d1 Sm1 Sj1 Sd1 := by
          refine ⟨⟨mb2, D', vp2, Sp2, HP1.out.fr hfr.out hne2, by simp only [List.length_append]; exact hmp.out, hkn.out, ?_, HP5.out.fr hfr.out (fun k hk e => (HP5'.out k hk).2.2 e), HP5'.out, p6, p7, fun k hk => Nat.lt_of_lt_of_le (HZ.out k hk) hfr.out.size⟩,
            HS2.out.jn.fr hfr.out (fun k hk e => HS2.out.mj mb2 p7 (e ▸ hk)), HS2.out.dk.fr hfr.out (fun k hk e => HS2.out.md mb2 p7 (e ▸ hk)), HS2.out.mj, HS2.out.md, HS2.out.jd⟩
          intro p hp
          rcases List.mem_append.1 hp with hp | hp
          · exact HP4.out p hp
          · exact HP.out p hp
        have HSF := Lib.hid sysF
        have hFF : Fr (fun k => Sm k ∨ Sj k ∨ Sd k) w wr := HF2.out.trans hfr.out (fun i hi e => by
          rcases HSM.out mb2 p7 with h | h
          · exact .inl (e ▸ h)
          · omega)
        have HFF := Lib.hid hFF
        clear hrm sysF hFF
        go_wp2
        go_loopw [89, 15] (fun t89 t15 w9 => t89 = .int .i64 0 ∧ t15 = .slice none 0 0 ∧ w9 = wr) (fun _ _ _ => 0)
        case atStart => exact ⟨rfl, rfl, rfl⟩
        case round =>
          obtain ⟨rfl, rfl, rfl⟩ := hrel
          go_wp2_with fail
          refine HRM.out.mono ?_
          rintro e w9 ⟨rfl, rfl⟩
          go_wp2
          go_ret
          rw [HWQ.out]
          exact ⟨rfl, Sm1, Sj1, Sd1, HSF.out, HFF.out, HSM.out, HSJ.out, HSD.out⟩
  · have hxb : (x == 0) = false := beq_false_of_ne hx
    have HWQ : Hid (writeR m j d file fresh = (m1, j1, d1, x)) := Lib.hid (by rw [HWR.out, if_pos hx])
    clear HWR
    go_wp2
    go_ret
    rw [HWQ.out]
    exact ⟨rfl, Sm1, Sj1, Sd1, HS2.out, HF2.out, HSM.out, HSJ.out, HSD.out⟩
end Go.Proofs.YtbbplhpkhholeaaGreatDoor
