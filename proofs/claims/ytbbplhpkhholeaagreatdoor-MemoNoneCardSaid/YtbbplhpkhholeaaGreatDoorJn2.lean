/- A journal: add. -/
import Derived.Test.YtbbplhpkhholeaaGreatDoorJn1
set_option linter.unusedVariables false
set_option linter.unusedSimpArgs false
set_option maxRecDepth 20000
namespace Go.Proofs.YtbbplhpkhholeaaGreatDoor
open Go.RowKit Go.Maps

theorem own_fr {S : Nat → Prop} {w w' : World} {B n : Nat} {e : TypeId} {size : Nat} {v : Value} {xs : List Value} (h : w.ownsRow B e size v n xs) (hf : Fr S w w') (hS : ∀ g, v.ownBlock = some g → ¬ S g) : w'.ownsRow B e size v n xs := by
  obtain ⟨h1, h2⟩ := h
  refine ⟨h1, ?_⟩
  rcases h2 with h2 | ⟨g, cap, cur, rfl, hb0, hh, r⟩
  · exact .inl h2
  · exact .inr ⟨g, cap, cur, rfl, hb0, hf.heap hh (hS g rfl), r⟩
theorem row_ne_row {w : World} {B B' n n' : Nat} {size size' : Nat} {v v' : Value} {vs vs' : List Value} {e e' : TypeId} (h : w.ownsRow B e size v n vs) (h' : w.ownsRow B' e' size' v' n' vs') (ht : e ≠ e') {g : Nat} (hg : v.ownBlock = some g) : v'.ownBlock ≠ some g := by
  rcases h.2 with ⟨rfl, _⟩ | ⟨g', cap, cur, rfl, _, hh, _⟩
  · cases hg
  · simp only [Value.ownBlock, Option.map_some, Option.some.injEq] at hg
    subst hg
    intro e2
    rcases h'.2 with ⟨rfl, _⟩ | ⟨g2, cap2, cur2, rfl, _, hh2, _⟩
    · cases e2
    · simp only [Value.ownBlock, Option.map_some, Option.some.injEq] at e2
      subst e2
      rw [hh] at hh2
      injection hh2 with hh2
      injection hh2 with _ h2
      exact ht h2
set_option maxHeartbeats 3200000 in
theorem add_any (w : World) (q p : Nat) (file : ByteArray) (j : Jn) (S : Nat → Prop) (v : Value) (xs : List Int) (k : Int) (h : IsJn w q p file j S) (hv : SlN w .u8 v xs) (hb : Byts xs)
    (h1 : j.all.length + xs.length ≤ 1099511627776) (h2 : j.recs.length ≤ 1099511627776) (h3 : 0 ≤ j.size) (h4 : 0 ≤ k) (h5 : j.size + k ≤ 1099511627776) :
    Calls Tryz.prog 87 #[.pointer (some ⟨q, 0, none⟩), v, .int .i64 k] w fun en w' => en = .returned (.tuple #[]) ∧
      ∃ S', IsJn w' q p file { j with recs := j.recs ++ [xs], size := j.size + k } S' ∧ Fr S w w' ∧ ∀ g, S' g → S g ∨ w.heap.size ≤ g := by
  obtain ⟨va, vp, s1, s2, s3, s4, s5, s6, s7, s8⟩ := h
  obtain ⟨iP, hiP, hzz⟩ := Option.map_eq_some_iff.1 infoPart
  simp only [Prod.mk.injEq] at hzz
  obtain ⟨hz0, hz1, hz2⟩ := hzz
  obtain ⟨zP, hzP, hzc⟩ := Option.map_eq_some_iff.1 hz0
  obtain ⟨A, c, rfl, hlc, hc, hat⟩ := hv.form
  obtain ⟨Aa, ca, rfl, hla, hca, _⟩ := (SlN.of_own s2).form
  have c2 : w.cell? ⟨q, 2, none⟩ = some (.slice Aa j.all.length ca) := s1.cell 2 rfl
  have c3 : w.cell? ⟨q, 3, none⟩ = some vp := s1.cell 3 rfl
  have c4 : w.cell? ⟨q, 4, none⟩ = some (.int .i64 j.size) := s1.cell 4 rfl
  have f2 := s1.frozen 2
  have f3 := s1.frozen 3
  have f4 := s1.frozen 4
  have HV := Lib.hid hv
  have H2 := Lib.hid s2
  have H3 := Lib.hid s3
  have H1 := Lib.hid s1
  clear hat s2 s3 hv s1
  go_enter Tryz.func87, Tryz.ntmps87
  go_wp2_with (at_builtin; refine wp_appB rfl _ _ rfl rfl rfl H2.out HV.out ?_ ?_ ?_)
  · omega
  · omega
  intro v' w' hO' hG hN
  obtain ⟨A', c', rfl, hla', hca', _⟩ := (SlN.of_own (own_nums hO' rfl rfl).out).form
  simp only [List.length_append] at hla' hO' hN
  have dq := row_ne_st H2.out H1.out (by decide)
  have dp := row_ne_st H3.out H1.out (by decide)
  have s1' : St w' q 153 #[.pointer (some ⟨p, 0, none⟩), .string file, .slice Aa j.all.length ca, vp, .int .i64 j.size, .bool j.cut] := H1.out.fr (Fr.of_grown hG.out) (fun e => dq e.symm)
  have c3' : w'.cell? ⟨q, 3, none⟩ = some vp := s1'.cell 3 rfl
  have c4' : w'.cell? ⟨q, 4, none⟩ = some (.int .i64 j.size) := s1'.cell 4 rfl
  have f2' := s1'.frozen 2
  have f3' := s1'.frozen 3
  have f4' := s1'.frozen 4
  have c2' : w'.cell? ⟨q, 2, none⟩ = some (.slice Aa j.all.length ca) := s1'.cell 2 rfl
  have hq' : q < w'.heap.size := s1'.lt
  have H1' := Lib.hid s1'
  have hown' := own_nums hO' rfl rfl
  have daq := row_ne_st hown'.out s1' (by decide)
  have H3' : Hid (w'.ownsRow 0 189 2 vp j.recs.length (partsV (offs 0 j.recs))) :=
    Lib.hid (own_fr H3.out (Fr.of_grown hG.out) (fun g hg e => row_ne_row H3.out H2.out (by decide) hg e.symm))
  obtain ⟨w2, hw2⟩ : ∃ w2, w'.setCell ⟨q, 2, none⟩ (.slice A' (j.all.length + xs.length) c') = w2 := ⟨_, rfl⟩
  have t1 : St w2 q 153 #[.pointer (some ⟨p, 0, none⟩), .string file, .slice A' (j.all.length + xs.length) c', vp, .int .i64 j.size, .bool j.cut] := by
    rw [← hw2]
    have := s1'.set 2 (.slice A' (j.all.length + xs.length) c')
    simpa using this
  have t2 : Fr (fun k => k = q) w' w2 := by rw [← hw2]; exact (Fr.refl _ _).set _ _
  have t3 : Hid (w2.ownsRow 0 189 2 vp j.recs.length (partsV (offs 0 j.recs))) := Lib.hid (own_fr H3'.out t2 (fun g hg e => dp (e ▸ hg)))
  have T1 := Lib.hid t1
  have T2 := Lib.hid t2
  have T4 : Hid (w2.drew.ownsRow 0 189 2 vp j.recs.length (partsV (offs 0 j.recs))) := Lib.hid t3.out
  clear s1' c2 c3 c4 f2 f3 f4 t2
  simp only [List.length_append]
  have d2 : w2.cell? ⟨q, 2, none⟩ = some (.slice A' (j.all.length + xs.length) c') := t1.cell 2 rfl
  have d3 : w2.cell? ⟨q, 3, none⟩ = some vp := t1.cell 3 rfl
  have d4 : w2.cell? ⟨q, 4, none⟩ = some (.int .i64 j.size) := t1.cell 4 rfl
  have g3 := t1.frozen 3
  have g4 := t1.frozen 4
  have hq2 : q < w2.heap.size := t1.lt
  clear t1
  have FIN : Hid (∀ gg cap w3, w3.ownsRow 0 189 2 (.slice (some ⟨gg, 0, none⟩) (j.recs.length + 1) cap) (j.recs.length + 1) (partsV (offs 0 j.recs) ++ [.int .i64 j.all.length, .int .i64 (j.all.length + xs.length)]) →
      (w2.drew.alloc (.cells #[.int .i64 j.all.length, .int .i64 (j.all.length + xs.length)] 189)).grownBy w3 vp.ownBlock → (vp.ownBlock = some gg ∨ gg = (w2.drew.alloc (.cells #[.int .i64 j.all.length, .int .i64 (j.all.length + xs.length)] 189)).heap.size) → gg < w3.heap.size →
      ∃ S', IsJn ((w3.setCell ⟨q, 3, none⟩ (.slice (some ⟨gg, 0, none⟩) (j.recs.length + 1) cap)).setCell ⟨q, 4, none⟩ (.int .i64 (j.size + k))) q p file { j with recs := j.recs ++ [xs], size := j.size + k } S' ∧
        Fr S w ((w3.setCell ⟨q, 3, none⟩ (.slice (some ⟨gg, 0, none⟩) (j.recs.length + 1) cap)).setCell ⟨q, 4, none⟩ (.int .i64 (j.size + k))) ∧ ∀ g, S' g → S g ∨ w.heap.size ≤ g) := by
    refine Lib.hid fun gg cap w3 r1 r2 r3 r4 => ?_
    have fA := (((Fr.refl (fun _ => False) w2).drew).alloc (.cells #[.int .i64 j.all.length, .int .i64 (j.all.length + xs.length)] 189)) 
    have hsA := fA.size
    have hsz : w.heap.size ≤ w'.heap.size := hG.out.size
    have hsz2 : w'.heap.size ≤ w2.heap.size := T2.out.size
    have u1 := (T1.out.fr (S := fun _ => False) fA (fun h => h)).fr (Fr.of_grown r2) (fun e => dp e.symm)
    have u2 := (u1.set 3 (.slice (some ⟨gg, 0, none⟩) (j.recs.length + 1) cap)).set 4 (.int .i64 (j.size + k))
    have fq : Fr (fun i => i = q) w3 ((w3.setCell ⟨q, 3, none⟩ (.slice (some ⟨gg, 0, none⟩) (j.recs.length + 1) cap)).setCell ⟨q, 4, none⟩ (.int .i64 (j.size + k))) := ((Fr.refl _ _).set _ _).set _ _
    have a1 : w2.ownsRow 0 5 1 (.slice A' (j.all.length + xs.length) c') (j.all ++ xs).length (numsV .u8 (j.all ++ xs)) := own_fr hown'.out T2.out (fun g hg e => daq (e ▸ hg))
    have a2 := own_fr a1 fA (fun _ _ h => h)
    have a3 := own_fr a2 (Fr.of_grown r2) (fun g hg e => row_ne_row a1 t3.out (by decide) hg e.symm)
    have a4 := own_fr a3 fq (fun g hg e => daq (e ▸ hg))
    have hgq : gg ≠ q := by
      rintro rfl
      rcases r3 with e | e
      · exact dp e
      · have := T1.out.lt
        omega
    have p1 := own_fr r1 fq (fun g hg e => by simp only [Value.ownBlock, Option.map_some, Option.some.injEq] at hg; omega)
    have hap : partsV (offs 0 j.recs) ++ [.int .i64 j.all.length, .int .i64 (j.all.length + xs.length)] = partsV (offs 0 (j.recs ++ [xs])) := by
      rw [offs_snoc, partsV_append]
      simp [partsV, Jn.all]
    rw [hap] at p1
    have hall : Jn.all { j with recs := j.recs ++ [xs], size := j.size + k } = j.all ++ xs := by simp [Jn.all]
    have hl2 : (j.recs ++ [xs]).length = j.recs.length + 1 := by simp
    refine ⟨fun g => S g ∨ (Value.slice A' (j.all.length + xs.length) c').ownBlock = some g ∨ gg = g, ⟨.slice A' (j.all.length + xs.length) c', .slice (some ⟨gg, 0, none⟩) (j.recs.length + 1) cap, by simpa using u2, by rw [hall]; exact a4, by simp only; rw [hl2]; exact p1, ?_, .inl s5, fun g hg => .inr (.inl hg), fun g hg => .inr (.inr (by simpa [Value.ownBlock] using hg)), ?_⟩, ?_, ?_⟩
    · intro r hr
      rcases List.mem_append.1 hr with hr | hr
      · exact s4 r hr
      · simp only [List.mem_singleton] at hr
        rw [hr]; exact hb
    · have hfin := fq.size
      have h3sz := r2.size
      rintro g (hg | hg | hg)
      · have := s8 g hg
        omega
      · rcases a4.2 with ⟨e, _⟩ | ⟨g', cap', cur, e, _, hh, _⟩
        · rw [e] at hg; cases hg
        · rw [e] at hg
          simp only [Value.ownBlock, Option.map_some, Option.some.injEq] at hg
          subst hg
          exact (Array.getElem?_eq_some_iff.1 hh).1
      · omega
    · refine ((((Fr.of_grown hG.out).mono (T := S) (fun i _ e => s6 i e.symm)).trans' (T2.out.mono (fun i _ e => e ▸ s5))).trans (fA.mono (T := S) (fun _ _ h => h.elim)) (fun _ _ h => h)).trans' ((Fr.of_grown r2).mono (fun i _ e => s7 i e.symm)) |>.trans' (fq.mono fun i _ e => e ▸ s5)
    · rintro g (hg | hg | hg)
      · exact .inl hg
      · rcases hN.out with e | e
        · exact .inl (s6 g (e ▸ hg))
        · rw [e] at hg
          cases hg
          exact .inr (Nat.le_refl _)
      · rcases r3 with e | e
        · exact .inl (s7 g (hg ▸ e))
        · exact .inr (by omega)
  have hone : ∀ u ∈ [Value.int .i64 j.all.length, .int .i64 (j.all.length + xs.length)], u.oneCell' = true := by
    intro u hu
    simp only [List.mem_cons, List.not_mem_nil, or_false] at hu
    rcases hu with rfl | rfl <;> rfl
  have hmx1 : j.recs.length + 1 ≤ maxLen := by simp only [maxLen]; omega
  have hmx2 : (j.recs.length + 1) * 16 ≤ 140737488355328 := by omega
  have U : Hid (∀ w3, (w2.drew.alloc (.cells #[.int .i64 j.all.length, .int .i64 (j.all.length + xs.length)] 189)).grownBy w3 vp.ownBlock → St w3 q 153 #[.pointer (some ⟨p, 0, none⟩), .string file, .slice A' (j.all.length + xs.length) c', vp, .int .i64 j.size, .bool j.cut]) :=
    Lib.hid fun w3 hg => (T1.out.fr (S := fun _ => False) (((Fr.refl _ w2).drew).alloc _) (fun h => h)).fr (Fr.of_grown hg) (fun e => dp e.symm)
  go_wp2_with fail
  clear hw2 c2' c3' c4' f2' f3' f4' hq'
  go_region_law (first | (refine step_append_lies _ (by rfl) _ _ _ (by rfl) 0 189 iP zP 2 16 Tryz.underlying151 hiP hzP hz1 hz2 hzc (by decide) vp j.recs.length (partsV (offs 0 j.recs)) (by rfl) (T4.out.alloc _) ⟨w2.heap.size, 0, none⟩ 1 1 [.int .i64 j.all.length, .int .i64 (j.all.length + xs.length)] (by rfl) rfl (World.news_of_block (heap_alloc_new _ _)) hone (by decide) hmx1 hmx2 (Nat.zero_le _) _ rfl ?_; intro gg cap w3 hown3 hgrow3 hat3 hlt3; have t5 := U.out w3 hgrow3; have e3 := t5.frozen 3; have e3c := t5.cell 3 rfl; have e4 := t5.frozen 4; have e4c := t5.cell 4 rfl; have hq3 := t5.lt; have T5 := Lib.hid t5; have HO3 := Lib.hid hown3; have HG3 := Lib.hid hgrow3; clear t5 hown3 hgrow3))
  all_goals
    go_wp2
    go_end0
    exact ⟨rfl, FIN.out _ _ _ HO3.out HG3.out hat3 hlt3⟩
end Go.Proofs.YtbbplhpkhholeaaGreatDoor
