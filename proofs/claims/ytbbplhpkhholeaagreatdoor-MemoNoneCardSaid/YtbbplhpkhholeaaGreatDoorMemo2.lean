/- A memo: lay. -/
import Derived.Test.YtbbplhpkhholeaaGreatDoorMemo1
import Derived.Test.YtbbplhpkhholeaaGreatDoorDisk8
set_option linter.unusedVariables false
set_option linter.unusedSimpArgs false
set_option maxRecDepth 20000
namespace Go.Proofs.YtbbplhpkhholeaaGreatDoor
open Go.RowKit Go.Maps Go.Shelf Go.Sort

structure Sys (w : World) (mp dp jp : Nat) (file : ByteArray) (m : Mm) (j : Jn) (d : Dk) (Sm Sj Sd : Nat → Prop) : Prop where
  memo : IsMemo w mp dp jp file m Sm
  jn : IsJn w jp dp file j Sj
  dk : IsDisk w dp d Sd
  mj : ∀ k, Sm k → ¬ Sj k
  md : ∀ k, Sm k → ¬ Sd k
  jd : ∀ k, Sj k → ¬ Sd k
/-- The record of the parts' numbers. -/
def recN (ns : List Int) : List Int := uintB ns.length ++ ns.flatMap uintB
def layR (m : Mm) (j : Jn) (d : Dk) (file : ByteArray) (b : List Int) (others : List (Int × List Int)) : Mm × Jn × Dk × Int :=
  let n := m.last + 1
  let r1 := d.append (nameN file n.toNat) b
  if r1.2 ≠ 0 then (m, j, r1.1, r1.2) else
  let r2 := j.append r1.1 file (recN (n :: others.map (·.1)))
  if r2.2.2 ≠ 0 then (m, r2.1, r2.2.1, r2.2.2) else ({ m with parts := (n, b) :: others, last := n }, r2.1, r2.2.1, 0)
theorem partsC_length : ∀ (ps : List (Int × List Int)) (vs : List Value), vs.length = ps.length → (partsC ps vs).length = ps.length * 2
  | [], [], _ => rfl
  | [], _ :: _, h => by simp at h
  | _ :: _, [], h => by simp at h
  | p :: ps, v :: vs, h => by
    have := partsC_length ps vs (by simpa using h)
    simp only [partsC, List.length_cons, this]; omega
theorem partsC_at : ∀ (ps : List (Int × List Int)) (vs : List Value), vs.length = ps.length → ∀ (k : Nat) (n : Int) (b : List Int) (v : Value), ps[k]? = some (n, b) → vs[k]? = some v → (partsC ps vs)[k * 2]? = some (.int .i64 n) ∧ (partsC ps vs)[k * 2 + 1]? = some v
  | [], [], _, k, n, b, v, h, _ => by simp at h
  | [], _ :: _, h, _, _, _, _, _, _ => by simp at h
  | _ :: _, [], h, _, _, _, _, _, _ => by simp at h
  | p :: ps, u :: vs, h, 0, n, b, v, h1, h2 => by
    simp only [List.getElem?_cons_zero, Option.some.injEq] at h1 h2
    subst h1 h2
    simp [partsC]
  | p :: ps, u :: vs, h, k + 1, n, b, v, h1, h2 => by
    simp only [List.getElem?_cons_succ] at h1 h2
    have := partsC_at ps vs (by simpa using h) k n b v h1 h2
    rw [show (k + 1) * 2 = k * 2 + 1 + 1 from by omega]
    simpa [partsC] using this
theorem infoPart2 : (Tryz.prog.info? 109).map (fun i => (i.zero, i.size, i.bytes)) = some (some (.agg #[.int .i64 0, .slice none 0 0]), 2, 32) := by kernel_rfl
theorem own_sl {w : World} {B n : Nat} {e : TypeId} {size : Nat} {v : Value} {xs : List Value} (h : w.ownsRow B e size v n xs) (h1 : ∀ u ∈ xs, u.oneCell' = true) : Sl w size v n xs := Sl.of_own h h1
theorem partsC_one {w : World} : ∀ (ps : List (Int × List Int)) (vs : List Value), (∀ (i : Nat) (v : Value), vs[i]? = some v → v.oneCell' = true) → ∀ u ∈ partsC ps vs, u.oneCell' = true
  | [], [], _, u, hu => by simp [partsC] at hu
  | [], _ :: _, _, u, hu => by simp [partsC] at hu
  | _ :: _, [], _, u, hu => by simp [partsC] at hu
  | p :: ps, v :: vs, h, u, hu => by
    simp only [partsC, List.mem_cons] at hu
    rcases hu with rfl | rfl | hu
    · rfl
    · exact h 0 _ rfl
    · exact partsC_one (w := w) ps vs (fun i v hv => h (i + 1) v (by simpa using hv)) u hu
theorem SlN.one {w : World} {k : IntKind} {v : Value} {xs : List Int} (h : SlN w k v xs) : v.oneCell' = true := by
  obtain ⟨A, c, rfl, _⟩ := h.form
  rfl
/-- Two cells of an element. -/
theorem Sl.at2 {w : World} {v : Value} {n : Nat} {xs : List Value} (h : Sl w 2 v n xs) {k : Nat} {a b : Value} (hk : k < n) (ha : xs[k * 2]? = some a) (hb : xs[k * 2 + 1]? = some b) :
    ∃ g off c, v = .slice (some ⟨g, off, none⟩) n c ∧ n ≤ c ∧ c ≤ 9223372036854775807 ∧ w.cell? ⟨g, off + k * 2, none⟩ = some a ∧ w.cell? ⟨g, off + k * 2 + 1, none⟩ = some b := by
  obtain ⟨A, c, rfl, l1, l2, l3, l4, l5, l6⟩ := h
  cases A with
  | none => have := l4 rfl; omega
  | some ad =>
    obtain ⟨bb, oo, sp⟩ := ad
    obtain ⟨e1, e2⟩ := l6 _ rfl
    simp only at e1
    subst e1
    exact ⟨bb, oo, c, rfl, l2, l3, e2 _ _ ha, by have := e2 _ _ hb; rw [Nat.add_assoc]; exact this⟩
theorem Sl.shape {w : World} {size : Nat} {v : Value} {n : Nat} {xs : List Value} (h : Sl w size v n xs) : ∃ A c, v = .slice A n c ∧ n ≤ c ∧ c ≤ 9223372036854775807 := by
  obtain ⟨A, c, rfl, l1, l2, l3, _⟩ := h
  exact ⟨A, c, rfl, l2, l3⟩
theorem own_lit {w : World} (B : Nat) (e : TypeId) (xs : List Value) (n : Nat) (hn : xs.length = 1 * n) (h1 : 1 ≤ maxLen) (hB : B ≤ w.heap.size) :
    (w.alloc (.cells xs.toArray e)).ownsRow B e n (.slice (some ⟨w.heap.size, 0, none⟩) 1 1) 1 xs :=
  ⟨hn, .inr ⟨w.heap.size, 1, xs.toArray, rfl, hB, heap_alloc_new _ _, Nat.le_refl _, h1, by simpa using hn, by rw [← hn]; simp⟩⟩
set_option maxHeartbeats 3200000 in
theorem lay_any (w : World) (mp dp jp : Nat) (file : ByteArray) (m : Mm) (j : Jn) (d : Dk) (Sm Sj Sd : Nat → Prop) (vb vk : Value) (b : List Int) (others : List (Int × List Int)) (hs : Sys w mp dp jp file m j d Sm Sj Sd)
    (hdk : DkOk d) (hw : d.writes + 10000000 ≤ 4611686018427387904) (hf : file.size ≤ 1000) (hfl : file.size ≤ maxLen) (hl0 : 0 ≤ m.last) (hl1 : m.last ≤ 4000000000) (hn : NumOk w (m.last + 1).toNat)
    (hb : SlN w .u8 vb b) (hby : Byts b) (hbS : ∀ g, vb.ownBlock = some g → ¬ Sm g ∧ ¬ Sd g ∧ ¬ Sj g) (hbl : ∀ g, vb.ownBlock = some g → g < w.heap.size)
    (hk : (vk = .slice none 0 0 ∧ others = []) ∨ (others = m.parts ∧ w.cell? ⟨mp, 4, none⟩ = some vk)) (hol : others.length ≤ 1000) (hnum : ∀ p ∈ others, 0 ≤ p.1 ∧ p.1 ≤ 4294967296)
    (h1 : j.all.length ≤ 549755813888) (h2 : j.recs.length ≤ 549755813888) (h3 : 0 ≤ j.size) (h5 : j.size ≤ 549755813888) :
    Calls Tryz.prog 102 #[.pointer (some ⟨mp, 0, none⟩), vb, vk] w fun en w' => en = .returned (.int .i64 (layR m j d file b others).2.2.2) ∧
      ∃ Sm' Sj' Sd', Sys w' mp dp jp file (layR m j d file b others).1 (layR m j d file b others).2.1 (layR m j d file b others).2.2.1 Sm' Sj' Sd' ∧ Fr (fun k => Sm k ∨ Sj k ∨ Sd k) w w' ∧
        (∀ k, Sm' k → Sm k ∨ vb.ownBlock = some k ∨ w.heap.size ≤ k) ∧ (∀ k, Sj' k → Sj k ∨ w.heap.size ≤ k) ∧ (∀ k, Sd' k → Sd k ∨ w.heap.size ≤ k) := by
  obtain ⟨mb, D, vp, Sp, q1, q2, q3, q4, q5, q5', q6, q7, q8⟩ := id hs.memo
  have hds : ∀ k, Sd k → k < w.heap.size := by
    obtain ⟨_, _, _, _, _, _, _, _, h⟩ := hs.dk
    exact h
  have hjs : ∀ k, Sj k → k < w.heap.size := by
    obtain ⟨_, _, _, _, _, _, _, _, _, h⟩ := hs.jn
    exact h
  obtain ⟨nn, hnn⟩ : ∃ nn : Nat, m.last + 1 = nn := ⟨(m.last + 1).toNat, by omega⟩
  have hnt : (m.last + 1).toNat = nn := by omega
  rw [hnt] at hn
  have c0 : w.cell? ⟨mp, 0, none⟩ = some (.pointer (some ⟨dp, 0, none⟩)) := q1.cell 0 rfl
  have c1 : w.cell? ⟨mp, 1, none⟩ = some (.pointer (some ⟨jp, 0, none⟩)) := q1.cell 1 rfl
  have c4 : w.cell? ⟨mp, 4, none⟩ = some vp := q1.cell 4 rfl
  have c5 : w.cell? ⟨mp, 5, none⟩ = some (.int .i64 m.last) := q1.cell 5 rfl
  have hmd := hs.md mp q6
  have hmj := hs.mj mp q6
  have hkp : ∃ vs : List Value, vs.length = others.length ∧ w.ownsRow 0 109 2 vk others.length (partsC others vs) ∧ (∀ g, vk.ownBlock = some g → Sp g) ∧
      ∀ (i : Nat) (n : Int) (b : List Int) (v : Value), others[i]? = some (n, b) → vs[i]? = some v → SlN w .u8 v b ∧ Byts b ∧ (∀ g, v.ownBlock = some g → Sp g) := by
    rcases hk with ⟨rfl, rfl⟩ | ⟨rfl, hc⟩
    · exact ⟨[], rfl, World.ownsRow_nil _ _ _ _, fun g hg => (by cases hg), fun i n b v h => (by cases h)⟩
    · rw [c4] at hc
      cases hc
      exact q5
  obtain ⟨vs, hvl, hvr, hvS, hvb⟩ := hkp
  have hvone : ∀ u ∈ partsC others vs, u.oneCell' = true := partsC_one (w := w) others vs (fun i v hv => by
    have hi : i < others.length := by rw [← hvl]; exact (List.getElem?_eq_some_iff.1 hv).1
    exact (hvb i others[i].1 others[i].2 v (List.getElem?_eq_getElem hi) hv).1.one)
  obtain ⟨Ak, ck, rfl, hlk, hck⟩ := (own_sl hvr hvone).shape
  have hvone' : ∀ u ∈ [Value.int .i64 nn, vb] ++ partsC others vs, u.oneCell' = true := by
    intro u hu
    simp only [List.mem_append, List.mem_cons, List.not_mem_nil, or_false] at hu
    rcases hu with (rfl | rfl) | hu
    · rfl
    · exact hb.one
    · exact hvone u hu
  obtain ⟨Ab, cb, rfl, hlb, hcb, _⟩ := hb.form
  have hname := name_any w.drew mp dp jp file m Sm nn (hs.memo.fr (T := fun _ => False) ((Fr.refl _ w).drew) (fun _ _ h => h)) hn hf
  have hns : (nameN file nn).size ≤ maxLen := by
    have := itoaB_size nn
    have e : (nameN file nn).size = file.size + 1 + (itoaB nn).size := by simp [nameN, dashB, ByteArray.size_append]; rfl
    rw [e]
    simp only [maxLen]
    omega
  have HNM := Lib.hid hname
  have HS := Lib.hid hs
  have HB := Lib.hid hb
  have HNS := Lib.hid hns
  have HQ1 := Lib.hid q1
  have HVR := Lib.hid hvr
  have HVO := Lib.hid hvone'
  have HV1 := Lib.hid hvone
  have HVB := Lib.hid hvb
  have HQ2 := Lib.hid q2
  have HQ3 := Lib.hid q3
  have HQ5 := Lib.hid q5'
  clear hname hs hb hk q1 q2 q3 q5 hns hn hvr hvone hvone' hvb c4 q5'
  go_enter Tryz.func102, Tryz.ntmps102
  go_wp2_with fail
  go_region_held3 (fun w' => w'.cell? ⟨mp, 0, none⟩ = some (.pointer (some ⟨dp, 0, none⟩))) (go_keep)
    (first
      | (go_at_call 17; refine (append_any w3 dp d Sd (nameN file nn) _ b (HS.out.dk.fr HF3.out (fun _ _ h => h)) hdk (by omega) HNS.out (HB.out.fr HF3.out (fun _ _ h => h.elim)) hby (fun g hg => (hbS g hg).2.1)).mono ?_; rintro e w4 ⟨rfl, Sd', hi4, hf4, hs4⟩; have k0 := hf4.cell (HF3.out.cell c0 (fun h => h)) hmd; have HI4 := Lib.hid hi4; have HF4 := Lib.hid hf4; have HS4 := Lib.hid hs4; clear hi4 hf4 hs4)
      | (go_at_call 94; refine HNM.out.mono ?_; rintro e w3 ⟨rfl, hf3⟩; have HF3 : Hid (Fr (fun _ => False) w w3) := Lib.hid ((Fr.refl _ w).drew.trans' hf3); have j0 := hf3.cell c0 (fun h => h); clear hf3))
  have hF4 : Fr Sd w w4 := (HF3.out.mono (fun _ _ h => h.elim)).trans' HF4.out
  have hS4 : ∀ k, Sd' k → Sd k ∨ w.heap.size ≤ k := fun k hk => (HS4.out k hk).imp id (fun h => Nat.le_trans HF3.out.size h)
  have hmd' : ∀ k, Sm k → ¬ Sd' k := fun k hk hd => (hS4 k hd).elim (HS.out.md k hk) (fun h => by have := q8 k hk; omega)
  have hjd' : ∀ k, Sj k → ¬ Sd' k := fun k hk hd => (hS4 k hd).elim (HS.out.jd k hk) (fun h => by have := hjs k hk; omega)
  have hlr : layR m j d file b others = if (d.append (nameN file nn) b).2 ≠ 0 then (m, j, (d.append (nameN file nn) b).1, (d.append (nameN file nn) b).2) else
      if (j.append (d.append (nameN file nn) b).1 file (recN ((nn : Int) :: others.map (·.1)))).2.2 ≠ 0 then (m, (j.append (d.append (nameN file nn) b).1 file (recN ((nn : Int) :: others.map (·.1)))).1, (j.append (d.append (nameN file nn) b).1 file (recN ((nn : Int) :: others.map (·.1)))).2.1, (j.append (d.append (nameN file nn) b).1 file (recN ((nn : Int) :: others.map (·.1)))).2.2)
      else ({ m with parts := ((nn : Int), b) :: others, last := nn }, (j.append (d.append (nameN file nn) b).1 file (recN ((nn : Int) :: others.map (·.1)))).1, (j.append (d.append (nameN file nn) b).1 file (recN ((nn : Int) :: others.map (·.1)))).2.1, 0) := by
    unfold layR
    simp only [hnn, Int.toNat_natCast]
  obtain ⟨r1, hr1⟩ : ∃ r, d.append (nameN file nn) b = r := ⟨_, rfl⟩
  have hd1w : DkOk r1.1 ∧ r1.1.writes ≤ d.writes + 4194305 := by
    have := append_ok d (nameN file nn) b hdk HS.out.dk.nodup (by omega)
    rw [hr1] at this
    exact ⟨this.1, this.2.1⟩
  rw [hr1] at HI4 hlr ⊢
  obtain ⟨d1, x1⟩ := r1
  simp only at HI4 hlr hd1w ⊢
  have HLR := Lib.hid hlr
  have HF := Lib.hid hF4
  have HSS := Lib.hid hS4
  have HMD := Lib.hid hmd'
  have HJD := Lib.hid hjd'
  have HDW := Lib.hid hd1w
  clear hF4 hS4 hmd' hjd' hlr hr1 k0 j0 hd1w
  by_cases hx1 : x1 = 0
  · subst hx1
    have HLQ : Hid (layR m j d file b others = if (j.append d1 file (recN ((nn : Int) :: others.map (·.1)))).2.2 ≠ 0 then (m, (j.append d1 file (recN ((nn : Int) :: others.map (·.1)))).1, (j.append d1 file (recN ((nn : Int) :: others.map (·.1)))).2.1, (j.append d1 file (recN ((nn : Int) :: others.map (·.1)))).2.2)
      else ({ m with parts := ((nn : Int), b) :: others, last := nn }, (j.append d1 file (recN ((nn : Int) :: others.map (·.1)))).1, (j.append d1 file (recN ((nn : Int) :: others.map (·.1)))).2.1, 0)) := Lib.hid (by rw [HLR.out, if_neg (by simp)])
    clear HLR
    have hmp4 : mp < w4.heap.size := Nat.lt_of_lt_of_le (q8 mp q6) HF.out.size
    have k1 : w4.cell? ⟨mp, 1, none⟩ = some (.pointer (some ⟨jp, 0, none⟩)) := HF.out.cell c1 hmd
    have hsrc : Sl (w4.alloc (.cells #[.int .i64 nn, .slice Ab b.length cb] 109)) 2 (.slice Ak others.length ck) others.length (partsC others vs) :=
      Sl.alloc ((own_sl HVR.out HV1.out).fr HF.out (fun g _ hs e => HS.out.md g (HQ5.out g (hvS g e)).1 hs)) _
    have hlit := own_lit (w := w4) w.heap.size 109 [.int .i64 nn, .slice Ab b.length cb] 2 rfl (by decide) HF.out.size
    have HSR := Lib.hid hsrc
    have HLT := Lib.hid hlit
    have hbse : w.heap.size ≤ (w4.alloc (.cells #[.int .i64 nn, .slice Ab b.length cb] 109)).heap.size := by have := HF.out.size; simp; omega
    clear hsrc hlit
    go_wp2_with (at_builtin; refine wpList_app rfl _ _ 90 109 _ 2 32 rfl Tryz.underlying90 infoPart2 rfl (by decide) (by decide) rfl rfl HLT.out HSR.out (by omega) hbse ?_)
    intro v9 w5 ho5 hg5 hN5
    obtain ⟨L, hL⟩ : ∃ L, 1 + others.length = L := ⟨_, rfl⟩
    rw [hL] at ho5
    have hL2 : L ≤ 1001 := by omega
    have hc5 : partsC (((nn : Int), b) :: others) (.slice Ab b.length cb :: vs) = .int .i64 nn :: .slice Ab b.length cb :: partsC others vs := rfl
    rw [← hc5] at ho5
    have hps : ((((nn : Int), b) :: others : List (Int × List Int))).length = L := by simp only [List.length_cons]; omega
    have hvs : (.slice Ab b.length cb :: vs : List Value).length = (((nn : Int), b) :: others : List (Int × List Int)).length := by simp only [List.length_cons]; omega
    have hsl5 : Sl w5 2 v9 L (partsC (((nn : Int), b) :: others) (.slice Ab b.length cb :: vs)) := own_sl ho5 HVO.out
    obtain ⟨A9, c9, rfl, hl9, hc9⟩ := hsl5.shape
    have hF45 : Fr (fun _ => False) w4 w5 := ((Fr.refl _ w4).alloc _).grown hg5 (fun k e hk => by
      simp only [Value.ownBlock, Option.map_some, Option.some.injEq] at e
      omega)
    have hF5 : Fr Sd w w5 := HF.out.trans hF45 (fun _ _ h => h.elim)
    have HF45 := Lib.hid hF45
    clear hF45
    have hnb : ∀ g, (Value.slice A9 L c9).ownBlock = some g → w4.heap.size ≤ g := by
      intro g hg
      rcases hN5 with e | e
      · rw [e] at hg
        simp only [Value.ownBlock, Option.map_some, Option.some.injEq] at hg
        omega
      · rw [e] at hg
        simp only [Option.some.injEq] at hg
        omega
    have hsz45 : w4.heap.size ≤ w5.heap.size := by have := hg5.size; simp at this; omega
    have hnumP : ∀ q ∈ (((nn : Int), b) :: others : List (Int × List Int)), 0 ≤ q.1 ∧ q.1 ≤ 4294967296 := by
      intro q hq
      rcases List.mem_cons.1 hq with rfl | hq
      · exact ⟨by simp only; omega, by simp only; omega⟩
      · exact hnum q hq
    obtain ⟨PS, hPS⟩ : ∃ PS : List (Int × List Int), ((nn : Int), b) :: others = PS := ⟨_, rfl⟩
    obtain ⟨VS, hVS⟩ : ∃ VS : List Value, .slice Ab b.length cb :: vs = VS := ⟨_, rfl⟩
    have hform : ∀ u ∈ VS, ∃ A n c, u = Value.slice A n c := by
      intro u hu
      rw [← hVS] at hu
      rcases List.mem_cons.1 hu with rfl | hu
      · exact ⟨_, _, _, rfl⟩
      · obtain ⟨i, hi, rfl⟩ := List.mem_iff_getElem.1 hu
        obtain ⟨⟨n, bb⟩, hx⟩ : ∃ x, others[i]? = some x := ⟨_, List.getElem?_eq_getElem (by omega)⟩
        obtain ⟨A, c, e, _⟩ := (HVB.out i n bb vs[i] hx (List.getElem?_eq_getElem hi)).1.form
        exact ⟨A, _, c, e⟩
    have HFM := Lib.hid hform
    clear hform
    have hrn : recN ((nn : Int) :: others.map (·.1)) = uintB L ++ (PS.map (·.1)).flatMap uintB := by
      rw [← hPS]
      simp only [recN, List.map_cons, List.length_cons, List.length_map]
      rw [show others.length + 1 = L from by omega]
    rw [hPS, hVS] at ho5 hsl5 hvs
    rw [hPS] at hps hnumP
    have hpu := putUint_any w5 (.slice none 0 0) [] L (SlN.nil _ _) (by simp) ⟨by omega, by omega⟩
    rw [List.nil_append] at hpu
    have hul : (uintB L).length ≤ 10 := (uintB_len (x := L) ⟨by omega, by omega⟩).2
    have HPU := Lib.hid hpu
    have HO5 := Lib.hid ho5
    have HF5 := Lib.hid hF5
    have HSL5 := Lib.hid hsl5
    have HNB := Lib.hid hnb
    have HNP := Lib.hid hnumP
    have HRN := Lib.hid hrn
    have HPS := Lib.hid hPS
    have HVS := Lib.hid hVS
    have HVLS := Lib.hid hvs
    clear hpu ho5 hF5 hsl5 hnb hnumP hrn hPS hVS hvs hN5 hg5 hc5 hL HSR HLT
    go_wp2_with fail
    refine HPU.out.mono ?_
    rintro e w6 ⟨v6, rfl, ho6, hb6⟩
    have HO6 := Lib.hid ho6
    have HB6 := Lib.hid hb6
    clear ho6 hb6
    go_wp2
    go_loopw [43, 10] (fun t43 t10 wr => ∃ (k : Nat) (pre : List Int), k ≤ L ∧ t43 = .int .i64 k ∧ Hid (pre = uintB L ++ ((PS.map (·.1)).take k).flatMap uintB) ∧ pre.length ≤ 10 + 10 * k ∧ Hid (Byts pre) ∧ Hid (wr.ownsRow w5.heap.size 5 1 t10 pre.length (numsV .u8 pre)) ∧ Hid (Below w5.heap.size w5 wr)) (fun i _ _ => L - (intOf i).toNat)
    case atStart => exact ⟨0, _, Nat.zero_le _, rfl, Lib.hid (by simp), by omega, Lib.hid (uintB_byts _), HO6, HB6⟩
    case round =>
      obtain ⟨k, pre, hk, rfl, hpre, hpl, hbp, hO, hB⟩ := hrel
      by_cases hlt : k < L
      · obtain ⟨⟨n, bb⟩, hx⟩ : ∃ x, PS[k]? = some x := ⟨_, List.getElem?_eq_getElem (by omega)⟩
        obtain ⟨u, hu⟩ : ∃ x, VS[k]? = some x := ⟨_, List.getElem?_eq_getElem (by have := HVLS.out; omega)⟩
        obtain ⟨Au, nu, cu, rfl⟩ := HFM.out u (List.mem_of_getElem? hu)
        obtain ⟨p1, p2⟩ := partsC_at PS VS HVLS.out k n bb _ hx hu
        obtain ⟨g, off, c, e', hlc', hcc', e1, e2⟩ := Sl.at2 HSL5.out hlt p1 p2
        cases e'
        have hnr := HNP.out _ (List.mem_of_getElem? hx)
        simp only at hnr
        obtain ⟨hnr1, hnr2⟩ := hnr
        have e1' := (Fr.same' hB.out).cell e1 (fun h => h)
        have e2' := (Fr.same' hB.out).cell e2 (fun h => h)
        obtain ⟨W1, hW1⟩ : ∃ W1, wr.alloc (.cells #[.int .i64 n, .slice Au nu cu] 109) = W1 := ⟨_, rfl⟩
        have hx0 : W1.cell? ⟨wr.heap.size, 0, none⟩ = some (.int .i64 n) := by rw [← hW1]; simp
        have hput := putUint_any W1 u10 pre n (SlN.of_own (by rw [← hW1]; exact hO.out.alloc _)) (by omega) ⟨by omega, by omega⟩
        have HPT := Lib.hid hput
        have hul2 : (uintB n).length ≤ 10 := (uintB_len (x := n) ⟨by omega, by omega⟩).2
        have hbW : Hid (Below w5.heap.size w5 W1) := Lib.hid (by rw [← hW1]; exact hB.out.alloc hB.out.size _)
        clear hput e1 e2 p1 p2
        go_wp2_with fail
        refine HPT.out.mono ?_
        rintro e w7 ⟨v7, rfl, ho7, hb7⟩
        have hpre7 : pre ++ uintB n = uintB L ++ ((PS.map (·.1)).take (k + 1)).flatMap uintB := by
          rw [hpre.out, List.take_add_one, List.getElem?_map, hx]
          simp [List.flatMap_append]
        have HO7 : Hid (w7.ownsRow w5.heap.size 5 1 v7 (pre ++ uintB n).length (numsV .u8 (pre ++ uintB n))) := Lib.hid (own_base ho7 hbW.out.size)
        have HB7 : Hid (Below w5.heap.size w5 w7) := Lib.hid (hbW.out.trans (hb7.mono hbW.out.size))
        have HP7 := Lib.hid hpre7
        have HY7 : Hid (Byts (pre ++ uintB n)) := Lib.hid (hbp.out.append (uintB_byts _))
        clear ho7 hb7 hpre7
        go_wp2
        go_roundw
        case rel => exact ⟨k + 1, _, by omega, by go_num, HP7, by rw [List.length_append]; omega, HY7, HO7, HB7⟩
        case measure => simp [intOf]; omega
      · have htk : (PS.map (·.1)).take k = PS.map (·.1) := List.take_of_length_le (by rw [List.length_map]; omega)
        rw [htk] at hpre
        have HPR : Hid (recN ((nn : Int) :: others.map (·.1)) = pre) := Lib.hid (by rw [HRN.out, hpre.out])
        have hFr : Fr Sd w wr := HF5.out.trans (Fr.same' hB.out) (fun _ _ h => h.elim)
        have hmpr : wr.cell? ⟨mp, 1, none⟩ = some (.pointer (some ⟨jp, 0, none⟩)) := hFr.cell c1 hmd
        have hszr : w4.heap.size ≤ wr.heap.size := Nat.le_trans hsz45 hB.out.size
        have h4r : Fr (fun _ => False) w4 wr := HF45.out.trans' (Fr.same' hB.out)
        have hja := jappend_any wr jp dp file j d1 Sj Sd' u10 pre (HS.out.jn.fr hFr HS.out.jd) (HI4.out.fr h4r (fun _ _ h => h)) HDW.out.1 (by have := HDW.out.2; omega) hfl (fun k hk => HJD.out k hk) (SlN.of_own hO.out) hbp.out
          (fun g hg hd => by
            have a1 := own_new hO.out hg
            have a2 : g < w4.heap.size := by
              obtain ⟨_, _, _, _, _, _, _, _, h⟩ := HI4.out
              exact h g hd
            omega) h1 h2 h3 h5
        have HJA := Lib.hid hja
        have HFR := Lib.hid hFr
        have HH4 := Lib.hid h4r
        clear hja hFr h4r
        go_wp2_with fail
        refine HJA.out.mono ?_
        rintro e w8 ⟨rfl, Sj', Sd2, hj8, hd8, hf8, hjd8, hsj8, hsd8⟩
        obtain ⟨r2, hr2⟩ : ∃ r, j.append d1 file pre = r := ⟨_, rfl⟩
        have HLZ : Hid (layR m j d file b others = if r2.2.2 ≠ 0 then (m, r2.1, r2.2.1, r2.2.2) else ({ m with parts := ((nn : Int), b) :: others, last := nn }, r2.1, r2.2.1, 0)) := Lib.hid (by rw [HLQ.out, HPR.out, hr2])
        rw [hr2] at hj8 hd8 ⊢
        obtain ⟨j2, d2, x2⟩ := r2
        simp only at hj8 hd8 HLZ ⊢
        have hF8 : Fr (fun k => Sj k ∨ Sd k) w w8 := (HFR.out.mono (fun _ _ h => .inr h)).trans hf8 (fun i hi h => h.elim .inl (fun h => .inr ((HSS.out i h).elim id (fun h => by omega))))
        have hszr4 : w.heap.size ≤ wr.heap.size := HFR.out.size
        have hSj' : ∀ k, Sj' k → Sj k ∨ w.heap.size ≤ k := fun k hk => (hsj8 k hk).imp id (fun h => by omega)
        have hSd' : ∀ k, Sd2 k → Sd k ∨ w.heap.size ≤ k := fun k hk => (hsd8 k hk).elim (fun h => HSS.out k h) (fun h => .inr (by omega))
        have hSj'' : ∀ k, Sj' k → Sj k ∨ wr.heap.size ≤ k := hsj8
        have hSd'' : ∀ k, Sd2 k → Sd' k ∨ wr.heap.size ≤ k := hsd8
        have HJ8 := Lib.hid hj8
        have HD8 := Lib.hid hd8
        have HF8 := Lib.hid hF8
        have HFJ := Lib.hid hf8
        have HJD8 := Lib.hid hjd8
        have HSJ := Lib.hid hSj'
        have HSD := Lib.hid hSd'
        have HSJ2 := Lib.hid hSj''
        have HSD2 := Lib.hid hSd''
        have q18 : St w8 mp 92 #[.pointer (some ⟨dp, 0, none⟩), .pointer (some ⟨jp, 0, none⟩), .string file, .map (some mb), vp, .int .i64 m.last, .bool m.dead] := HQ1.out.fr hF8 (fun h => h.elim hmj hmd)
        have HQ18 := Lib.hid q18
        have g4 := q18.frozen 4
        have g5 := q18.frozen 5
        have k4 : w8.cell? ⟨mp, 4, none⟩ = some vp := q18.cell 4 rfl
        have k5 : w8.cell? ⟨mp, 5, none⟩ = some (.int .i64 m.last) := q18.cell 5 rfl
        have hmp8 : mp < w8.heap.size := q18.lt
        clear hj8 hd8 hf8 hjd8 hsj8 hsd8 hF8 hSj' hSd' hSj'' hSd'' hr2 q18 HLQ
        by_cases hx2 : x2 = 0
        · subst hx2
          have HLY : Hid (layR m j d file b others = ({ m with parts := ((nn : Int), b) :: others, last := nn }, j2, d2, 0)) := Lib.hid (by rw [HLZ.out, if_neg (by simp)])
          clear HLZ
          go_wp2
          go_ret
          rw [HLY.out]
          have fq : Fr (fun i => i = mp) w8 ((w8.setCell ⟨mp, 4, none⟩ (.slice A9 L c9)).setCell ⟨mp, 5, none⟩ (.int .i64 nn)) := ((Fr.refl _ _).set _ _).set _ _
          have hw4 : w.heap.size ≤ w4.heap.size := HF.out.size
          have hd4 : ∀ k, Sd' k → k < w4.heap.size := by
            obtain ⟨_, _, _, _, _, _, _, _, h⟩ := HI4.out
            exact h
          have hw5r : w5.heap.size ≤ wr.heap.size := hB.out.size
          have hA9 : ∀ g, (Value.slice A9 L c9).ownBlock = some g → w4.heap.size ≤ g ∧ g < w5.heap.size := fun g hg => ⟨HNB.out g hg, (HO5.out.lt g hg).2⟩
          have hnew : ∀ g, (Value.slice A9 L c9).ownBlock = some g → ¬ Sj g ∧ ¬ Sd' g ∧ ¬ Sj' g ∧ ¬ Sd2 g ∧ g ≠ mp ∧ g ≠ mb := by
            intro g hg
            obtain ⟨a1, a2⟩ := hA9 g hg
            have b1 := q8 mp q6
            have b2 := q8 mb q7
            refine ⟨fun h => by have := hjs g h; omega, fun h => by have := hd4 g h; omega, fun h => (HSJ2.out g h).elim (fun h => by have := hjs g h; omega) (fun h => by omega), fun h => (HSD2.out g h).elim (fun h => by have := hd4 g h; omega) (fun h => by omega), by omega, by omega⟩
          have hmne : mp ≠ mb := ownsMap_ne HQ2.out HQ1.out
          have rowF : ((w8.setCell ⟨mp, 4, none⟩ (.slice A9 L c9)).setCell ⟨mp, 5, none⟩ (.int .i64 nn)).ownsRow 0 109 2 (.slice A9 L c9) L (partsC PS VS) := by
            refine own_fr (own_fr (own_fr (own_base HO5.out (Nat.zero_le _)) (Fr.same' hB.out) (fun _ _ h => h)) HFJ.out (fun g hg h => ?_)) fq (fun g hg e => (hnew g hg).2.2.2.2.1 e)
            exact h.elim (hnew g hg).1 (hnew g hg).2.1
          have slF : ∀ (v : Value) (bb : List Int), SlN w .u8 v bb → (∀ g, v.ownBlock = some g → ¬ Sj g ∧ ¬ Sd g ∧ g ≠ mp) → SlN ((w8.setCell ⟨mp, 4, none⟩ (.slice A9 L c9)).setCell ⟨mp, 5, none⟩ (.int .i64 nn)) .u8 v bb := by
            intro v bb hv hg
            exact (hv.fr HF8.out (fun g _ hs e => hs.elim (hg g e).1 (hg g e).2.1)).fr fq (fun g _ hs e => (hg g e).2.2 hs)
          refine ⟨rfl, fun k => Sm k ∨ (Value.slice Ab b.length cb).ownBlock = some k ∨ (Value.slice A9 L c9).ownBlock = some k, Sj', Sd2, ⟨⟨mb, D, .slice A9 L c9, fun k => Sp k ∨ (Value.slice Ab b.length cb).ownBlock = some k ∨ (Value.slice A9 L c9).ownBlock = some k, ?_, ?_, HQ3.out, q4, ?_, ?_, .inl q6, .inl q7, ?_⟩,
            HJ8.out.fr fq (fun k hk e => ?_), HD8.out.fr fq (fun k hk e => ?_), ?_, ?_, HJD8.out⟩, (HF8.out.mono (fun _ _ h => .inr h)).trans fq (fun i _ e => .inl (e ▸ q6)), ?_, HSJ.out, HSD.out⟩
          · have := (HQ18.out.set 4 (.slice A9 L c9)).set 5 (.int .i64 nn)
            simpa using this
          · exact ownsMap_fr (ownsMap_fr HQ2.out HF8.out (fun h => h.elim (HS.out.mj mb q7) (HS.out.md mb q7))) fq (fun e => hmne e.symm)
          · refine ⟨VS, ?_, ?_, fun g hg => .inr (.inr hg), ?_⟩
            · rw [HVLS.out, ← HPS.out]
            · simp only [HPS.out]
              rw [hps]
              exact rowF
            · intro i n bb v hx hv
              simp only [HPS.out] at hx
              rw [← HPS.out] at hx
              rw [← HVS.out] at hv
              cases i with
              | zero =>
                simp only [List.getElem?_cons_zero, Option.some.injEq, Prod.mk.injEq] at hx hv
                obtain ⟨rfl, rfl⟩ := hx
                subst hv
                exact ⟨slF _ _ HB.out (fun g hg => ⟨(hbS g hg).2.2, (hbS g hg).2.1, fun e => (hbS g hg).1 (e ▸ q6)⟩), hby, fun g hg => .inr (.inl hg)⟩
              | succ i =>
                simp only [List.getElem?_cons_succ] at hx hv
                obtain ⟨a1, a2, a3⟩ := HVB.out i n bb v hx hv
                exact ⟨slF _ _ a1 (fun g hg => ⟨HS.out.mj g (HQ5.out g (a3 g hg)).1, HS.out.md g (HQ5.out g (a3 g hg)).1, (HQ5.out g (a3 g hg)).2.1⟩), a2, fun g hg => .inl (a3 g hg)⟩
          · rintro k (hk | hk | hk)
            · exact ⟨.inl (HQ5.out k hk).1, (HQ5.out k hk).2⟩
            · exact ⟨.inr (.inl hk), fun e => (hbS k hk).1 (e ▸ q6), fun e => (hbS k hk).1 (e ▸ q7)⟩
            · exact ⟨.inr (.inr hk), (hnew k hk).2.2.2.2.1, (hnew k hk).2.2.2.2.2⟩
          · have hz := fq.size
            have hz8 : w.heap.size ≤ w8.heap.size := HF8.out.size
            have hzr8 : wr.heap.size ≤ w8.heap.size := HFJ.out.size
            rintro k (hk | hk | hk)
            · have := q8 k hk; omega
            · have := hbl k hk; omega
            · have := (hA9 k hk).2; omega
          · have := HSJ.out k hk
            rcases this with h | h
            · exact HS.out.mj mp q6 (e ▸ h)
            · have := q8 mp q6; omega
          · have := HSD.out k hk
            rcases this with h | h
            · exact HS.out.md mp q6 (e ▸ h)
            · have := q8 mp q6; omega
          · rintro k (hk | hk | hk) h
            · rcases HSJ.out k h with h | h
              · exact HS.out.mj k hk h
              · have := q8 k hk; omega
            · rcases HSJ.out k h with h | h
              · exact (hbS k hk).2.2 h
              · have := hbl k hk; omega
            · exact (hnew k hk).2.2.1 h
          · rintro k (hk | hk | hk) h
            · rcases HSD.out k h with h | h
              · exact HS.out.md k hk h
              · have := q8 k hk; omega
            · rcases HSD.out k h with h | h
              · exact (hbS k hk).2.1 h
              · have := hbl k hk; omega
            · exact (hnew k hk).2.2.2.1 h
          · rintro k (hk | hk | hk)
            · exact .inl hk
            · exact .inr (.inl hk)
            · exact .inr (.inr (by have := (hA9 k hk).1; omega))
        · have hxb : (x2 == 0) = false := beq_false_of_ne hx2
          have HLY : Hid (layR m j d file b others = (m, j2, d2, x2)) := Lib.hid (by rw [HLZ.out, if_pos hx2])
          clear HLZ
          go_wp2
          go_ret
          rw [HLY.out]
          refine ⟨rfl, Sm, Sj', Sd2, ⟨HS.out.memo.fr HF8.out (fun k hk h => h.elim (HS.out.mj k hk) (HS.out.md k hk)), HJ8.out, HD8.out, fun k hk h => ?_, fun k hk h => ?_, HJD8.out⟩, HF8.out.mono (fun _ _ h => .inr h), fun k hk => .inl hk, HSJ.out, HSD.out⟩
          · rcases HSJ.out k h with h | h
            · exact HS.out.mj k hk h
            · have := q8 k hk; omega
          · rcases HSD.out k h with h | h
            · exact HS.out.md k hk h
            · have := q8 k hk; omega
  · have hxb : (x1 == 0) = false := beq_false_of_ne hx1
    have HLQ : Hid (layR m j d file b others = (m, j, d1, x1)) := Lib.hid (by rw [HLR.out, if_pos hx1])
    clear HLR
    go_wp2
    go_ret
    rw [HLQ.out]
    exact ⟨rfl, Sm, Sj, Sd', ⟨HS.out.memo.fr HF.out HS.out.md, HS.out.jn.fr HF.out HS.out.jd, HI4.out, HS.out.mj, HMD.out, HJD.out⟩, HF.out.mono (fun _ _ h => .inr (.inr h)), fun k hk => .inl hk, fun k hk => .inl hk, HSS.out⟩
end Go.Proofs.YtbbplhpkhholeaaGreatDoor
