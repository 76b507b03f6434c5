/- A memo: Add, where no merge is due. -/
import Derived.Test.YtbbplhpkhholeaaGreatDoorMemo3
set_option linter.unusedVariables false
set_option linter.unusedSimpArgs false
set_option maxRecDepth 20000
namespace Go.Proofs.YtbbplhpkhholeaaGreatDoor
open Go.RowKit Go.Maps Go.Shelf Go.Sort

theorem infoPair' : (Tryz.prog.info? 68).map (fun i => (i.zero, i.size, i.bytes)) = some (some (.agg #[.int .u64 0, .int .u64 0]), 2, 16) := by kernel_rfl
def isNew (known : List Pr) (p : Pr) : Bool := (klook known p.1).isNone
def clash (known : List Pr) (p : Pr) : Bool := match klook known p.1 with | some y => decide (y ≠ p.2) | none => false
open Classical in
noncomputable def addR (m : Mm) (j : Jn) (d : Dk) (file : ByteArray) (l : List Pr) : Mm × Jn × Dk × Int :=
  if m.dead = true then (m, j, d, 6) else
  if (makeR l).1 ≠ 0 then (m, j, d, (makeR l).1) else
  if l.any (clash m.known) = true then (m, j, d, 5) else
  if l.filter (isNew m.known) = [] then (m, j, d, 0) else
  if 65536 < (l.filter (isNew m.known)).length + m.known.length then (m, j, d, 3) else
  let r := writeR m j d file (l.filter (isNew m.known))
  ({ r.1 with dead := decide (r.2.2.2 ≠ 0) }, r.2.1, r.2.2.1, r.2.2.2)
theorem makeR_ok {l : List Pr} (h : (makeR l).1 = 0) : l.length ≤ 65536 ∧ (∀ p ∈ l, p.1 ≠ 0) ∧ (keysP l).Nodup := by
  unfold makeR at h
  split at h
  · simp at h
  · split at h
    · simp at h
    · split at h
      · simp at h
      · rename_i h1 h2 h3
        refine ⟨by omega, fun p hp e => h2 ⟨p, hp, e⟩, Classical.not_not.1 h3⟩
theorem makeR_mk {l : List Pr} (h1 : l.length ≤ 65536) (h2 : ∀ p ∈ l, p.1 ≠ 0) (h3 : (keysP l).Nodup) : makeR l = (0, runB (sortP l)) := by
  unfold makeR
  rw [if_neg (by omega), if_neg (fun ⟨p, hp, e⟩ => h2 p hp e), if_neg (fun h => h h3)]
theorem makeR_sub {l s : List Pr} (h : (makeR l).1 = 0) (hs : s.Sublist l) : makeR s = (0, runB (sortP s)) := by
  obtain ⟨h1, h2, h3⟩ := makeR_ok h
  exact makeR_mk (Nat.le_trans hs.length_le h1) (fun p hp => h2 p (hs.mem hp)) (h3.sublist (hs.map _))
theorem Sys.dead {w : World} {mp dp jp : Nat} {file : ByteArray} {m : Mm} {j : Jn} {d : Dk} {Sm Sj Sd : Nat → Prop} (h : Sys w mp dp jp file m j d Sm Sj Sd) (b : Bool) :
    Sys (w.setCell ⟨mp, 6, none⟩ (.bool b)) mp dp jp file { m with dead := b } j d Sm Sj Sd ∧ Fr Sm w (w.setCell ⟨mp, 6, none⟩ (.bool b)) := by
  have fq : Fr (fun i => i = mp) w (w.setCell ⟨mp, 6, none⟩ (.bool b)) := (Fr.refl _ _).set _ _
  obtain ⟨mb, D, vp, Sp, q1, q2, q3, q4, q5, q5', q6, q7, q8⟩ := h.memo
  have hne := ownsMap_ne q2 q1
  refine ⟨⟨⟨mb, D, vp, Sp, ?_, ownsMap_fr q2 fq (fun e => hne e.symm), q3, q4, q5.fr fq (fun k hk e => (q5' k hk).2.1 e), q5', q6, q7, fun k hk => Nat.lt_of_lt_of_le (q8 k hk) fq.size⟩, h.jn.fr fq (fun k hk e => h.mj mp q6 (e ▸ hk)), h.dk.fr fq (fun k hk e => h.md mp q6 (e ▸ hk)), h.mj, h.md, h.jd⟩, fq.mono (fun i _ e => e ▸ q6)⟩
  have := q1.set 6 (.bool b)
  simpa using this
set_option maxHeartbeats 3200000 in
theorem add_memo_any (w : World) (mp dp jp : Nat) (file : ByteArray) (m : Mm) (j : Jn) (d : Dk) (Sm Sj Sd : Nat → Prop) (vl : Value) (l : List Pr) (hs : Sys w mp dp jp file m j d Sm Sj Sd)
    (hdk : DkOk d) (hw : d.writes + 10000000 ≤ 4611686018427387904) (hf : file.size ≤ 1000) (hfl : file.size ≤ maxLen) (hl0 : 0 ≤ m.last) (hl1 : m.last ≤ 4000000000) (hn : ∀ w', Fr (fun _ => False) w w' → NumOk w' (m.last + 1).toNat)
    (hnum : ∀ p ∈ m.parts, 0 ≤ p.1 ∧ p.1 ≤ 4294967296) (h1 : j.all.length ≤ 549755813888) (h2 : j.recs.length ≤ 549755813888) (h3 : 0 ≤ j.size) (h5 : j.size ≤ 549755813888)
    (hv : SlP w vl l) (hp : OkP l) (hpl : m.parts.length < 4) (hkl : m.known.length ≤ 65536) :
    Calls Tryz.prog 12 #[.pointer (some ⟨mp, 0, none⟩), vl] w fun en w' => en = .returned (.int .i64 (addR m j d file l).2.2.2) ∧
      ∃ Sm' Sj' Sd', Sys w' mp dp jp file (addR m j d file l).1 (addR m j d file l).2.1 (addR m j d file l).2.2.1 Sm' Sj' Sd' ∧ Fr (fun k => Sm k ∨ Sj k ∨ Sd k) w w' ∧
        (∀ k, Sm' k → Sm k ∨ w.heap.size ≤ k) ∧ (∀ k, Sj' k → Sj k ∨ w.heap.size ≤ k) ∧ (∀ k, Sd' k → Sd k ∨ w.heap.size ≤ k) := by
  obtain ⟨mb, D, vp, Sp, q1, q2, q3, q4, q5, q5', q6, q7, q8⟩ := id hs.memo
  have hds : ∀ k, Sd k → k < w.heap.size := by
    obtain ⟨_, _, _, _, _, _, _, _, h⟩ := hs.dk
    exact h
  have hjs : ∀ k, Sj k → k < w.heap.size := by
    obtain ⟨_, _, _, _, _, _, _, _, _, h⟩ := hs.jn
    exact h
  obtain ⟨Al, cl, rfl, hll, hcl, hat⟩ := hv.form
  have c6 : w.cell? ⟨mp, 6, none⟩ = some (.bool m.dead) := q1.cell 6 rfl
  have c3 : w.cell? ⟨mp, 3, none⟩ = some (.map (some mb)) := q1.cell 3 rfl
  have hstay : ∀ w', Fr (fun _ => False) w w' → Sys w' mp dp jp file m j d Sm Sj Sd := fun w' hf => ⟨hs.memo.fr hf (fun _ _ h => h), hs.jn.fr hf (fun _ _ h => h), hs.dk.fr hf (fun _ _ h => h), hs.mj, hs.md, hs.jd⟩
  have HS := Lib.hid hs
  have HV := Lib.hid hv
  have HAT := Lib.hid hat
  have HP := Lib.hid hp
  have HN := Lib.hid hn
  have HQ2 := Lib.hid q2
  have HQ3 := Lib.hid q3
  have HST := Lib.hid hstay
  have HQ1 := Lib.hid q1
  cases hdead : m.dead with
  | true =>
    rw [hdead] at c6
    have HA : Hid (addR m j d file l = (m, j, d, 6)) := Lib.hid (by unfold addR; rw [if_pos hdead])
    clear hs hv hat q1 q2 q3 q5 hp hn hstay
    go_enter Tryz.func12, Tryz.ntmps12
    go_wp2
    go_ret
    rw [HA.out]
    exact ⟨rfl, Sm, Sj, Sd, HS.out, Fr.refl _ _, fun k hk => .inl hk, fun k hk => .inl hk, fun k hk => .inl hk⟩
  | false =>
    rw [hdead] at c6
    have hmake := make_any w (.slice Al l.length cl) l hv hp
    have HM := Lib.hid hmake
    have HA : Hid (addR m j d file l = if (makeR l).1 ≠ 0 then (m, j, d, (makeR l).1) else
      if l.any (clash m.known) = true then (m, j, d, 5) else
      if l.filter (isNew m.known) = [] then (m, j, d, 0) else
      if 65536 < (l.filter (isNew m.known)).length + m.known.length then (m, j, d, 3) else
      ({ (writeR m j d file (l.filter (isNew m.known))).1 with dead := decide ((writeR m j d file (l.filter (isNew m.known))).2.2.2 ≠ 0) }, (writeR m j d file (l.filter (isNew m.known))).2.1, (writeR m j d file (l.filter (isNew m.known))).2.2.1, (writeR m j d file (l.filter (isNew m.known))).2.2.2)) :=
      Lib.hid (by unfold addR; rw [if_neg (by rw [hdead]; simp)])
    clear hs hv hat q1 q2 q3 q5 hp hn hstay hmake
    obtain ⟨code, hcode⟩ : ∃ c, (makeR l).1 = c := ⟨_, rfl⟩
    by_cases hc : code = 0
    · subst hc
      have hok := makeR_ok hcode
      have HOK := Lib.hid hok
      have hll' := hok.1
      have HCO := Lib.hid hcode
      unfold RetBE at HM
      rw [hcode] at HM
      clear hok
      go_enter Tryz.func12, Tryz.ntmps12
      go_wp2_with fail
      refine HM.out.mono ?_
      rintro e w1 ⟨v1, rfl, _, hb1⟩
      have HF1 : Hid (Fr (fun _ => False) w w1) := Lib.hid (Fr.same' hb1)
      have HB1 := Lib.hid hb1
      clear hb1 HM
      go_wp2
      go_loopw [31, 7] (fun t31 t7 wr => ∃ (k : Nat), k ≤ l.length ∧ t31 = .int .i64 k ∧ Hid (wr.ownsRow w1.heap.size 68 2 t7 ((l.take k).filter (isNew m.known)).length (prsV ((l.take k).filter (isNew m.known)))) ∧ Hid (Below w1.heap.size w1 wr) ∧ Hid (∀ p ∈ l.take k, clash m.known p = false)) (fun i _ _ => l.length - (intOf i).toNat)
      case atStart => exact ⟨0, Nat.zero_le _, rfl, Lib.hid (World.ownsRow_nil _ _ _ _), Lib.hid (Below.refl _ _), Lib.hid (fun p hp => by simp at hp)⟩
      case round =>
        obtain ⟨k, hk, rfl, hO, hB, hcl'⟩ := hrel
        by_cases hlt : k < l.length
        · obtain ⟨x, hx⟩ : ∃ x, l[k]? = some x := ⟨_, List.getElem?_eq_getElem hlt⟩
          obtain ⟨b, off, rfl, e1, e2⟩ := HAT.out k x hx
          have hFr : Fr (fun _ => False) w wr := HF1.out.trans' (Fr.same' hB.out)
          have e1' := hFr.cell e1 (fun h => h)
          have e2' := hFr.cell e2 (fun h => h)
          have hux := HP.out x (List.mem_of_getElem? hx)
          obtain ⟨W1, hW1⟩ : ∃ W1, wr.alloc (.cells #[.int .u64 x.1, .int .u64 x.2] 68) = W1 := ⟨_, rfl⟩
          have hfW : Fr (fun _ => False) wr W1 := by rw [← hW1]; exact (Fr.refl _ _).alloc _
          have hbW : Below w1.heap.size w1 W1 := by rw [← hW1]; exact hB.out.alloc hB.out.size _
          have c3' : W1.cell? ⟨mp, 3, none⟩ = some (.map (some mb)) := hfW.cell (hFr.cell c3 (fun h => h)) (fun h => h)
          have a0 : W1.cell? ⟨wr.heap.size, 0, none⟩ = some (.int .u64 x.1) := by rw [← hW1]; simp
          have a1 : W1.cell? ⟨wr.heap.size, 1, none⟩ = some (.int .u64 x.2) := by rw [← hW1]; simp
          have hmW : ∀ n, (W1.drewN n).ownsMap Tryz.prog 35 HR mb m.known.length D := fun n => ownsMap_fr HQ2.out ((hFr.trans' hfW).drewN n) (fun h => h)
          have hlk : ∀ n, _ := fun n => look_cases (hmW n) keyed_u Tryz.underlying88 (zeroU (W1.drewN n)) (keyOf_u hux.1)
          rw [HQ3.out.at_ x.1 hux.1] at hlk
          have htk : l.take (k + 1) = l.take k ++ [x] := by rw [List.take_add_one, hx]; rfl
          have HO1 : Hid (∀ n, (W1.drewN n).ownsRow w1.heap.size 68 2 u7 ((l.take k).filter (isNew m.known)).length (prsV ((l.take k).filter (isNew m.known)))) := Lib.hid (fun n => own_fr hO.out (hfW.drewN n) (fun _ _ h => h))
          have HBW := Lib.hid hbW
          have HTK := Lib.hid htk
          clear hux e1 e2 hfW hbW hmW htk hFr
          cases hkx : klook m.known x.1 with
          | none =>
            rw [hkx] at hlk
            simp only [Option.map_none, Option.getD_none, Option.isSome_none] at hlk
            have hflen : ((l.take k).filter (isNew m.known)).length ≤ 65536 := Nat.le_trans (List.length_filter_le _ _) (by rw [List.length_take]; omega)
            have HSQ : Hid (∀ n, Sl ((W1.drewN n).alloc (.cells #[.int .u64 x.1, .int .u64 x.2] 68)) 2 (.slice (some ⟨(W1.drewN n).heap.size, 0, none⟩) 1 1) 1 [.int .u64 x.1, .int .u64 x.2]) := Lib.hid (fun n =>
              own_sl (own_lit (w := W1.drewN n) 0 68 [.int .u64 x.1, .int .u64 x.2] 2 rfl (by decide) (Nat.zero_le _)) (by
                intro u hu
                simp only [List.mem_cons, List.not_mem_nil, or_false] at hu
                rcases hu with rfl | rfl <;> rfl))
            have hbse : ∀ n, w1.heap.size ≤ ((W1.drewN n).alloc (.cells #[.int .u64 x.1, .int .u64 x.2] 68)).heap.size := fun n => by have : w1.heap.size ≤ (W1.drewN n).heap.size := HBW.out.size; simp at this ⊢; omega
            have HBS := Lib.hid hbse
            clear hbse
            go_wp2_with fail
            go_quiet (fail)
            go_wp2_with (at_builtin; refine wpList_app rfl _ _ 22 68 _ 2 16 rfl Tryz.underlying22 infoPair' rfl (by decide) (by decide) rfl rfl ((HO1.out nq).alloc _) (HSQ.out nq) (by omega) (HBS.out nq) ?_)
            intro v9 w9 ho9 hg9 hN9
            have hfin : Below w1.heap.size w1 w9 := ((below_drewN (n := nq) HBW.out).alloc (by exact HBW.out.size) _).grown hg9 (HBS.out nq) (fun i e => own_new (HO1.out nq) e)
            have HO9 := Lib.hid ho9
            have HB9 := Lib.hid hfin
            clear ho9 hg9 hN9 hfin
            go_wp2
            go_roundw
            case rel =>
              have hf1 : (l.take (k + 1)).filter (isNew m.known) = (l.take k).filter (isNew m.known) ++ [x] := by
                rw [HTK.out, List.filter_append]
                simp [isNew, hkx]
              refine ⟨k + 1, by omega, by go_num, Lib.hid ?_, HB9, Lib.hid (fun p hp => ?_)⟩
              · rw [hf1, prsV_append, List.length_append]
                exact HO9.out
              · rw [HTK.out] at hp
                rcases List.mem_append.1 hp with hp | hp
                · exact hcl'.out p hp
                · simp only [List.mem_singleton] at hp
                  subst hp
                  simp [clash, hkx]
            case measure => simp [intOf]; omega
          | some y =>
            rw [hkx] at hlk
            simp only [Option.map_some, Option.getD_some, Option.isSome_some] at hlk
            by_cases hy : y = x.2
            · have hyb : (y == x.2) = true := by simp [hy]
              go_wp2_with fail
              go_quiet (fail)
              go_wp2
              go_roundw
              case rel =>
                refine ⟨k + 1, by omega, by go_num, ?_, Lib.hid (below_drewN HBW.out _), Lib.hid (fun p hp => ?_)⟩
                · rw [HTK.out, List.filter_append]
                  have : [x].filter (isNew m.known) = [] := by simp [isNew, hkx]
                  rw [this, List.append_nil]
                  exact Lib.hid (HO1.out _)
                · rw [HTK.out] at hp
                  rcases List.mem_append.1 hp with hp | hp
                  · exact hcl'.out p hp
                  · simp only [List.mem_singleton] at hp
                    subst hp
                    simp [clash, hkx, hy]
              case measure => simp [intOf]; omega
            · have hyb : (y == x.2) = false := by simp [hy]
              go_wp2_with fail
              go_quiet (fail)
              go_wp2
              go_ret
              rw [HA.out, if_neg (by simp [HCO.out]), if_pos (List.any_eq_true.2 ⟨x, List.mem_of_getElem? hx, by simp [clash, hkx, hy]⟩)]
              have hFz := HF1.out.trans' (Fr.same' (below_drewN (n := nq) HBW.out))
              exact ⟨rfl, Sm, Sj, Sd, HST.out _ hFz, hFz.mono (fun _ _ h => h.elim), fun k hk => .inl hk, fun k hk => .inl hk, fun k hk => .inl hk⟩
        · have htk : l.take k = l := List.take_of_length_le (by omega)
          rw [htk] at hO hcl'
          have hnc : ¬ l.any (clash m.known) = true := by
            intro h
            obtain ⟨p, hp, hp2⟩ := List.any_eq_true.1 h
            rw [hcl'.out p hp] at hp2
            cases hp2
          have hFr : Fr (fun _ => False) w wr := HF1.out.trans' (Fr.same' hB.out)
          have hsub : (l.filter (isNew m.known)).Sublist l := List.filter_sublist
          obtain ⟨fr, hfr⟩ : ∃ fr, l.filter (isNew m.known) = fr := ⟨_, rfl⟩
          have HA2 : Hid (addR m j d file l = if fr = [] then (m, j, d, 0) else if 65536 < fr.length + m.known.length then (m, j, d, 3) else
            ({ (writeR m j d file fr).1 with dead := decide ((writeR m j d file fr).2.2.2 ≠ 0) }, (writeR m j d file fr).2.1, (writeR m j d file fr).2.2.1, (writeR m j d file fr).2.2.2)) := Lib.hid (by
              rw [HA.out, if_neg (by simp [HCO.out]), if_neg hnc, hfr])
          have hfrn : ∀ p ∈ fr, klook m.known p.1 = none := by
            intro p hp
            rw [← hfr] at hp
            have := (List.mem_filter.1 hp).2
            simpa [isNew] using this
          have hnd : (keysP fr).Nodup := by rw [← hfr]; exact HOK.out.2.2.sublist (hsub.map _)
          have hmk : makeR fr = (0, runB (sortP fr)) := by rw [← hfr]; exact makeR_sub HCO.out hsub
          have hokp : OkP fr := by intro p hp; rw [← hfr] at hp; exact HP.out p (hsub.mem hp)
          rw [hfr] at hO hsub
          obtain ⟨A7, c7, rfl, hl7, hc7⟩ := (own_sl hO.out (prsV_one _)).shape
          have c3' : wr.cell? ⟨mp, 3, none⟩ = some (.map (some mb)) := hFr.cell c3 (fun h => h)
          have hlen : ∀ ty, (Builtin.len_ #[88] ty #[.map (some mb)]).run Tryz.prog wr = .ok (.int .i64 m.known.length) wr := fun ty => by
            rw [(ownsMap_fr HQ2.out hFr (fun h => h)).len Tryz.underlying88 ty, HQ3.out.size]
          have hws : w.heap.size ≤ w1.heap.size := HF1.out.size
          have hwrite := fun hlong => write_any wr mp dp jp file m j d Sm Sj Sd (.slice A7 fr.length c7) fr (HST.out wr hFr) hdk hw hf hfl hl0 hl1 (fun w' h' => HN.out w' (hFr.trans' h')) hnum h1 h2 h3 h5 (own_sl hO.out (prsV_one _)) hokp
            (fun g hg => by
              have := own_new hO.out hg
              exact ⟨fun h => by have := q8 g h; omega, fun h => by have := hjs g h; omega, fun h => by have := hds g h; omega⟩) hmk hfrn hnd hpl hlong
          have HWT := Lib.hid hwrite
          have HFR := Lib.hid hFr
          have HSTW := Lib.hid (HST.out wr hFr)
          have hfl2 : fr.length ≤ l.length := hsub.length_le
          clear hwrite hFr hokp hmk hnd hfrn hsub hfr htk hnc HA
          by_cases hz : fr.length = 0
          · have hzb : ((fr.length : Int) == 0) = true := by rw [hz]; rfl
            have hze : fr = [] := List.eq_nil_of_length_eq_zero hz
            have HAQ : Hid (addR m j d file l = (m, j, d, 0)) := Lib.hid (by rw [HA2.out, if_pos hze])
            clear HA2 hze
            go_wp2
            go_ret
            rw [HAQ.out]
            exact ⟨rfl, Sm, Sj, Sd, HSTW.out, HFR.out.mono (fun _ _ h => h.elim), fun k hk => .inl hk, fun k hk => .inl hk, fun k hk => .inl hk⟩
          · have hzb : ((fr.length : Int) == 0) = false := beq_false_of_ne (by omega)
            have hze : fr ≠ [] := by rintro rfl; exact hz rfl
            by_cases hlong : 65536 < fr.length + m.known.length
            · have HAQ : Hid (addR m j d file l = (m, j, d, 3)) := Lib.hid (by rw [HA2.out, if_neg hze, if_pos hlong])
              clear HA2
              go_wp2
              go_ret
              rw [HAQ.out]
              exact ⟨rfl, Sm, Sj, Sd, HSTW.out, HFR.out.mono (fun _ _ h => h.elim), fun k hk => .inl hk, fun k hk => .inl hk, fun k hk => .inl hk⟩
            · have hwr := HWT.out (by omega)
              obtain ⟨r, hr⟩ : ∃ r, writeR m j d file fr = r := ⟨_, rfl⟩
              have HAQ : Hid (addR m j d file l = ({ r.1 with dead := decide (r.2.2.2 ≠ 0) }, r.2.1, r.2.2.1, r.2.2.2)) := Lib.hid (by rw [HA2.out, if_neg hze, if_neg hlong, hr])
              rw [hr] at hwr
              obtain ⟨m2, j2, d2, x2⟩ := r
              simp only at hwr HAQ
              have HWW := Lib.hid hwr
              clear HA2 hwr hr HWT
              go_wp2_with fail
              refine HWW.out.mono ?_
              rintro e w5 ⟨rfl, Sm', Sj', Sd', sys5, hf5, hm5, hj5, hd5⟩
              have HS5 := Lib.hid sys5
              have HF5 := Lib.hid hf5
              have hwrs : w.heap.size ≤ wr.heap.size := HFR.out.size
              have HM5 : Hid (∀ k, Sm' k → Sm k ∨ w.heap.size ≤ k) := Lib.hid (fun k hk => (hm5 k hk).imp id (fun h => by omega))
              have HJ5 : Hid (∀ k, Sj' k → Sj k ∨ w.heap.size ≤ k) := Lib.hid (fun k hk => (hj5 k hk).imp id (fun h => by omega))
              have HD5 : Hid (∀ k, Sd' k → Sd k ∨ w.heap.size ≤ k) := Lib.hid (fun k hk => (hd5 k hk).imp id (fun h => by omega))
              obtain ⟨mb5, D5, vp5, Sp5, p1, _⟩ := sys5.memo
              have k6 : w5.cell? ⟨mp, 6, none⟩ = some (.bool m2.dead) := p1.cell 6 rfl
              have g6 := p1.frozen 6
              have hmp5 := p1.lt
              have fin : ∀ bb, Sys (w5.setCell ⟨mp, 6, none⟩ (.bool bb)) mp dp jp file { m2 with dead := bb } j2 d2 Sm' Sj' Sd' ∧ Fr (fun k => Sm k ∨ Sj k ∨ Sd k) w (w5.setCell ⟨mp, 6, none⟩ (.bool bb)) := fun bb => by
                obtain ⟨a1, a2⟩ := HS5.out.dead bb
                refine ⟨a1, ((HFR.out.mono (fun _ _ h => h.elim)).trans' HF5.out).trans a2 (fun i hi h => ?_)⟩
                rcases HM5.out i h with h | h
                · exact .inl h
                · omega
              have FIN := Lib.hid fin
              clear sys5 hf5 hm5 hj5 hd5 p1 fin
              by_cases hx2 : x2 = 0
              · subst hx2
                go_wp2
                go_ret
                rw [HAQ.out]
                exact ⟨rfl, Sm', Sj', Sd', by simpa using (FIN.out false).1, by simpa using (FIN.out false).2, HM5.out, HJ5.out, HD5.out⟩
              · have hxb : (x2 == 0) = false := beq_false_of_ne hx2
                have hxn : (x2 != 0) = true := by simp [hx2]
                go_wp2
                go_ret
                rw [HAQ.out]
                exact ⟨rfl, Sm', Sj', Sd', by simpa [hx2] using (FIN.out true).1, by simpa using (FIN.out true).2, HM5.out, HJ5.out, HD5.out⟩
    · have hcb : (code == 0) = false := beq_false_of_ne hc
      have HAQ : Hid (addR m j d file l = (m, j, d, code)) := Lib.hid (by rw [HA.out, hcode, if_pos hc])
      unfold RetBE at HM
      rw [hcode] at HM
      clear HA hcode
      go_enter Tryz.func12, Tryz.ntmps12
      go_wp2_with fail
      refine HM.out.mono ?_
      rintro e w1 ⟨v1, rfl, _, hb1⟩
      have HF1 : Hid (Fr (fun _ => False) w w1) := Lib.hid (Fr.same' hb1)
      clear hb1 HM
      go_wp2
      go_ret
      rw [HAQ.out]
      exact ⟨rfl, Sm, Sj, Sd, HST.out w1 HF1.out, HF1.out.mono (fun _ _ h => h.elim), fun k hk => .inl hk, fun k hk => .inl hk, fun k hk => .inl hk⟩
end Go.Proofs.YtbbplhpkhholeaaGreatDoor
