/- Package run: Make. -/
import Derived.Test.YtbbplhpkhholeaaGreatDoorRun1
import Derived.IntWalk
set_option linter.unusedVariables false
set_option linter.unusedSimpArgs false
set_option maxRecDepth 20000
namespace Go.Proofs.YtbbplhpkhholeaaGreatDoor
open Go.RowKit Go.Maps Go.Shelf

def sortP (ps : List Pr) : List Pr := ps.mergeSort (fun a b => decide (a.1 ≤ b.1))
def keysP (ps : List Pr) : List Int := ps.map (·.1)
open Classical in
noncomputable def makeR (ps : List Pr) : Int × List Int :=
  if 65536 < ps.length then (3, []) else if ∃ p ∈ ps, p.1 = 0 then (2, []) else if ¬ (keysP ps).Nodup then (5, []) else (0, runB (sortP ps))
theorem sortP_perm (ps : List Pr) : (sortP ps).Perm ps := List.mergeSort_perm _ _
theorem sortP_sorted (ps : List Pr) : sorted (sortP ps) := by
  have := List.pairwise_mergeSort (le := fun a b : Pr => decide (a.1 ≤ b.1)) (fun a b c h1 h2 => by simp only [decide_eq_true_eq] at *; omega) (fun a b => by simp only [Bool.or_eq_true, decide_eq_true_eq]; omega) ps
  exact this.imp fun h => by simpa using h
theorem sorted_unique {ps qs : List Pr} (h1 : sorted ps) (h2 : sorted qs) (hp : ps.Perm qs) (hn : (keysP ps).Nodup) : ps = qs := by
  refine List.Perm.eq_of_pairwise (le := fun a b : Pr => a.1 ≤ b.1) (fun a b ha hb k1 k2 => ?_) h1 h2 hp
  have e : a.1 = b.1 := Int.le_antisymm k1 k2
  have hb' : b ∈ ps := hp.mem_iff.2 hb
  have hn' : ps.Pairwise (fun x y => x.1 ≠ y.1) := by
    unfold keysP at hn
    rw [List.nodup_iff_pairwise_ne, List.pairwise_map] at hn
    exact hn
  rcases List.mem_iff_getElem.1 ha with ⟨i, hi, rfl⟩
  rcases List.mem_iff_getElem.1 hb' with ⟨j, hj, rfl⟩
  rw [List.pairwise_iff_getElem] at hn'
  rcases Nat.lt_trichotomy i j with h | h | h
  · exact absurd e (hn' i j hi hj h)
  · subst h; rfl
  · exact absurd e.symm (hn' j i hj hi h)
theorem strict_of {ps : List Pr} (hs : sorted ps) (h : ∀ j (h1 : j + 1 < ps.length), ps[j + 1].1 ≠ ps[j].1) : (keysP ps).Nodup := by
  have key : ∀ i j (hi : i < ps.length) (hj : j < ps.length), i < j → ps[i].1 < ps[j].1 := by
    intro i j hi hj hij
    unfold sorted at hs
    rw [List.pairwise_iff_getElem] at hs
    have h1 := hs i (i + 1) hi (by omega) (by omega)
    have h2 := h i (by omega)
    by_cases e : i + 1 = j
    · subst e; omega
    · have h3 := hs (i + 1) j (by omega) hj (by omega)
      omega
  unfold keysP
  rw [List.nodup_iff_pairwise_ne, List.pairwise_map, List.pairwise_iff_getElem]
  intro i j hi hj hij
  have := key i j hi hj hij
  omega
/-- What Make hands back: bytes and a number. -/
def RetBE (w : World) (r : Int × List Int) (en : Ending) (w' : World) : Prop := ∃ v, en = .returned (.tuple #[v, .int .i64 r.1]) ∧ w'.ownsRow w.heap.size 5 1 v r.2.length (numsV .u8 r.2) ∧ Below w.heap.size w w'
theorem make_any (w : World) (v : Value) (ps : List Pr) (h : SlP w v ps) (hp : OkP ps) :
    Calls Tryz.prog 9 #[v] w (RetBE w (makeR ps)) := by
  obtain ⟨A, c, rfl, hlc, hcc, hat⟩ := h.form
  by_cases hlong : 65536 < ps.length
  · have e : makeR ps = (3, []) := by unfold makeR; rw [if_pos hlong]
    rw [e]
    clear h hat
    go_enter Tryz.func9, Tryz.ntmps9
    go_wp2
    go_ret2
    exact ⟨_, rfl, World.ownsRow_nil _ _ _ _, Below.refl _ _⟩
  · have hown : ∀ g, (Value.slice A ps.length c).ownBlock = some g → 0 < ps.length → g < w.heap.size := by
      intro g hg h0
      obtain ⟨b, off, rfl, e1, _⟩ := hat 0 _ (List.getElem?_eq_getElem h0)
      simp only [Value.ownBlock, Option.map_some, Option.some.injEq] at hg
      subst hg
      exact World.block_lt_of_cell? w _ e1
    have hval := values_any w (.slice A ps.length c) A ps.length c rfl
    have HV := Lib.hid hval
    have H := Lib.hid h
    have HP := Lib.hid hp
    clear hval h hat hp
    go_enter Tryz.func9, Tryz.ntmps9
    go_wp2_with fail
    refine HV.out.mono ?_
    rintro e w1 ⟨rfl, rfl⟩
    go_wp2_with fail
    obtain ⟨W1, hW1⟩ : ∃ W1, w.alloc (.cells #[.slice A ps.length c] 22) = W1 := ⟨_, rfl⟩
    have hs1 : W1.heap.size = w.heap.size + 1 := by rw [← hW1]; simp
    have hb1 : Below w.heap.size w W1 := by rw [← hW1]; exact (Below.refl _ _).alloc (Nat.le_refl _) _
    have hc1 : W1.cell? ⟨w.heap.size, 0, none⟩ = some (.slice A ps.length c) := by rw [← hW1]; simp
    have hsp : SlP W1 (.slice A ps.length c) ps := Sl.same H.out hb1
    have hst := values_stops 8 (by omega) w.heap.size W1.heap.size (.slice A ps.length c) ps W1 (by omega) (Nat.le_refl _) hc1 hsp (fun g hg h0 => by have := hown g hg h0; omega)
    have hsf := sortedFunc_any W1 _ _ ps _ (by omega) (fun _ _ => rfl) hst
    have HSF := Lib.hid hsf
    have HB1 := Lib.hid hb1
    clear hsf hst hsp hb1 hc1 hown
    rw [hW1]
    refine HSF.out.mono ?_
    rintro e w2 ⟨v2, qs, rfl, hperm, hsort, ho2, hb2⟩
    have hql : qs.length = ps.length := hperm.length_eq
    have HQ : Hid (SlP w2 v2 qs) := Lib.hid (Sl.of_own ho2 (prsV_one _))
    obtain ⟨A2, c2, rfl, hlc2, hcc2, hat2⟩ := HQ.out.form
    have HB2 : Hid (Below w.heap.size w w2) := Lib.hid (HB1.out.trans (hb2.mono HB1.out.size))
    have HO2 := Lib.hid ho2
    have HPERM := Lib.hid hperm
    have HSORT := Lib.hid hsort
    have HAT2 := Lib.hid hat2
    have HOK : Hid (OkP qs) := Lib.hid (fun p hp => HP.out p (hperm.mem_iff.1 hp))
    have hkeys : (keysP qs).Nodup ↔ (keysP ps).Nodup := (hperm.map _).nodup_iff
    have hmk : Hid (makeR ps = if ∃ p ∈ ps, p.1 = 0 then (2, []) else if ¬ (keysP ps).Nodup then (5, []) else (0, runB (sortP ps))) := Lib.hid (by unfold makeR; rw [if_neg hlong])
    have HK := Lib.hid hkeys
    clear ho2 hperm hsort hat2 hb2 hkeys HSF hW1
    by_cases h0 : qs.length = 0
    · have hq0 : qs = [] := List.eq_nil_of_length_eq_zero h0
      have hp0 : ps = [] := List.eq_nil_of_length_eq_zero (by omega)
      have hmr : makeR ps = (0, runB qs) := by
        rw [hmk.out, if_neg (by rw [hp0]; simp), if_neg (by rw [hp0]; simp [keysP]), hp0, hq0]
        simp [sortP]
      have hby := bytes_any w2 (.slice A2 qs.length c2) qs HQ.out HOK.out (by omega)
      rw [h0] at hby
      have hpl0 : ps.length = 0 := by omega
      have HBY := Lib.hid hby
      have HMR := Lib.hid hmr
      clear hby hmr
      go_wp2
      go_loopw [5] (fun t5 wr => t5 = .int .i64 1 ∧ wr = w2) (fun i _ => 0)
      case atStart => exact ⟨rfl, rfl⟩
      case round =>
        obtain ⟨rfl, rfl⟩ := hrel
        go_wp2_with fail
        refine HBY.out.mono ?_
        rintro e w3 ⟨v3, rfl, ho3, hb3⟩
        have HO3 := Lib.hid ho3
        have HB3 := Lib.hid hb3
        clear ho3 hb3
        go_wp2
        go_ret2
        rw [HMR.out]
        exact ⟨v3, rfl, own_base HO3.out HB2.out.size, HB2.out.trans (HB3.out.mono HB2.out.size)⟩
    · obtain ⟨x0, hx0⟩ : ∃ x, qs[0]? = some x := ⟨_, List.getElem?_eq_getElem (by omega)⟩
      obtain ⟨b, off, rfl, e1, e2⟩ := HAT2.out 0 x0 hx0
      simp only [Nat.zero_mul, Nat.add_zero] at e1
      by_cases hz : x0.1 = 0
      · have hzb : (x0.1 == 0) = true := by simp [hz]
        go_wp2
        go_ret2
        rw [hmk.out, if_pos ⟨x0, HPERM.out.mem_iff.1 (List.mem_of_getElem? hx0), hz⟩]
        exact ⟨_, rfl, World.ownsRow_nil _ _ _ _, HB2.out⟩
      · have hzb : (x0.1 == 0) = false := by simp [hz]
        go_wp2
        have hnz : ¬ ∃ p ∈ ps, p.1 = 0 := by
          rintro ⟨p, hp, hp0⟩
          have hp' := HPERM.out.mem_iff.2 hp
          obtain ⟨i, hi, rfl⟩ := List.mem_iff_getElem.1 hp'
          have h00 : x0 = qs[0] := by rw [List.getElem?_eq_getElem (by omega)] at hx0; cases hx0; rfl
          have hx0p := (HOK.out x0 (List.mem_of_getElem? hx0)).1.1
          by_cases hi0 : i = 0
          · subst hi0
            exact hz (h00 ▸ hp0)
          · have := HSORT.out
            unfold sorted at this
            rw [List.pairwise_iff_getElem] at this
            have := this 0 i (by omega) hi (by omega)
            rw [← h00, hp0] at this
            omega
        have HNZ := Lib.hid hnz
        clear hnz
        go_loopw [5] (fun t5 wr => ∃ (m j : Nat), m < ps.length ∧ t5 = .int .i64 ((m : Int) + 1) ∧ wr = w2.drewN j ∧ Hid (∀ i (h : i + 1 < qs.length), i < m → qs[i + 1].1 ≠ qs[i].1)) (fun i _ => ps.length - (intOf i).toNat)
        case atStart => exact ⟨0, 0, by omega, rfl, rfl, Lib.hid (fun i _ h => by omega)⟩
        case round =>
          obtain ⟨m, j, hm, rfl, rfl, hin⟩ := hrel
          by_cases hlt : m + 1 < ps.length
          · obtain ⟨x, hx⟩ : ∃ x, qs[m]? = some x := ⟨_, List.getElem?_eq_getElem (by omega)⟩
            obtain ⟨y, hy⟩ : ∃ y, qs[m + 1]? = some y := ⟨_, List.getElem?_eq_getElem (by omega)⟩
            obtain ⟨b', off', e', f1, _⟩ := HAT2.out m x hx
            cases e'
            obtain ⟨b', off', e', f2, _⟩ := HAT2.out (m + 1) y hy
            cases e'
            have hw : IntKind.i64.wrap ((m : Int) + 1 - 1) = m := by rw [show (m : Int) + 1 - 1 = m from by omega]; exact IntWalk.i64_in _ (by omega)
            have hn1 : ((m : Int) + 1).toNat = m + 1 := by omega
            have hn2 : (0 : Int) ≤ (m : Int) + 1 := by omega
            have hn3 : (m : Int) + 1 < ps.length := by omega
            have hxq : qs[m]'(by omega) = x := by rw [List.getElem?_eq_getElem (by omega)] at hx; cases hx; rfl
            have hyq : qs[m + 1]'(by omega) = y := by rw [List.getElem?_eq_getElem (by omega)] at hy; cases hy; rfl
            by_cases heq : y.1 = x.1
            · have hbq : (y.1 == x.1) = true := by simp [heq]
              go_wp2_with fail
              go_quiet (fail)
              go_wp2
              go_ret2
              have hnd : ¬ (keysP ps).Nodup := by
                rw [← HK.out]
                intro hnd
                unfold keysP at hnd
                rw [List.nodup_iff_pairwise_ne, List.pairwise_map, List.pairwise_iff_getElem] at hnd
                exact hnd m (m + 1) (by omega) (by omega) (by omega) (by rw [hxq, hyq]; exact heq.symm)
              rw [hmk.out, if_neg HNZ.out, if_pos hnd]
              exact ⟨_, rfl, World.ownsRow_nil _ _ _ _, below_drewN (below_drewN HB2.out _) _⟩
            · have hbq : (y.1 == x.1) = false := by simp [heq]
              go_wp2_with fail
              go_quiet (fail)
              go_wp2
              go_roundw
              case rel => exact ⟨m + 1, j + nq, by omega, by go_num, rfl, Lib.hid (fun i h hi => by
                by_cases e : i = m
                · subst e; rw [hxq, hyq]; exact heq
                · exact hin.out i h (by omega))⟩
              case measure => simp [intOf]; omega
          · have hnd : (keysP qs).Nodup := strict_of HSORT.out (fun i h => hin.out i h (by omega))
            have hnd' := HK.out.1 hnd
            have hqs : qs = sortP ps := sorted_unique HSORT.out (sortP_sorted ps) (HPERM.out.trans (sortP_perm ps).symm) hnd
            have hmr : makeR ps = (0, runB qs) := by rw [hmk.out, if_neg HNZ.out, if_neg (by simpa using hnd'), hqs]
            have hby := bytes_any (w2.drewN j) (.slice (some ⟨b, off, none⟩) qs.length c2) qs (Sl.drewN HQ.out j) HOK.out (by omega)
            rw [hql] at hby
            have HBY := Lib.hid hby
            have HMR := Lib.hid hmr
            clear hby hmr hqs hnd hnd'
            go_wp2_with fail
            refine HBY.out.mono ?_
            rintro e w3 ⟨v3, rfl, ho3, hb3⟩
            have HO3 := Lib.hid ho3
            have HB3 := Lib.hid hb3
            clear ho3 hb3
            go_wp2
            go_ret2
            rw [HMR.out]
            have hz2 : w.heap.size ≤ (w2.drewN j).heap.size := HB2.out.size
            exact ⟨v3, rfl, own_base HO3.out hz2, (below_drewN HB2.out j).trans (HB3.out.mono hz2)⟩
end Go.Proofs.YtbbplhpkhholeaaGreatDoor
