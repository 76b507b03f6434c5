/- slices.Values, AppendSeq, Collect at pairs. -/
import Derived.Test.YtbbplhpkhholeaaGreatDoorIter1
import Derived.Maps.OwnIn
set_option linter.unusedVariables false
set_option linter.unusedSimpArgs false
set_option maxRecDepth 20000
namespace Go.Proofs.YtbbplhpkhholeaaGreatDoor
open Go.RowKit Go.Maps Go.Shelf

attribute [local go_sem] Oper.semAt_some

theorem infoPair : (Tryz.prog.info? 68).map (fun i => (i.zero.map (·.cells.size), i.size, i.bytes)) = some (some 2, 2, 16) := by kernel_rfl
theorem values_any (w : World) (v : Value) (A : Option Addr) (n c : Nat) (hv : v = .slice A n c) : Calls Tryz.prog 37 #[v] w fun e w' => e = .returned (.func (.func 76) #[] #[.pointer (some ⟨w.heap.size, 0, none⟩)]) ∧ w.alloc (.cells #[v] 22) = w' := by
  subst hv
  go_enter Tryz.func37, Tryz.ntmps37
  go_wp2
  go_ret
  exact ⟨rfl, rfl⟩
theorem values_stops (n : Nat) (hn : 1 ≤ n) (Bs n₀ : Nat) (v : Value) (ps : List Pr) (w : World) (hBs : Bs < w.heap.size) (hn₀ : n₀ ≤ w.heap.size)
    (hc : w.cell? ⟨Bs, 0, none⟩ = some v) (hs : SlP w v ps) (hv : ∀ g, v.ownBlock = some g → 0 < ps.length → g < n₀) :
    SeqStopsK Fence.wide n Tryz.prog 76 #[.pointer (some ⟨Bs, 0, none⟩)] (fun x : Pr => #[prV x]) (Below n₀) (fun ys => ys = ps) (fun pre => pre <+: ps) ps.length w := fun l J Jx W hW hJ _ hY h0 => by
  have hc' := (hW.cell (p := ⟨Bs, 0, none⟩) hBs).trans hc
  have hs' : SlP W v ps := Sl.same hs hW
  exact values1_in n hn l Bs n₀ v ps J Jx W hJ hY hc' hs' hv (Nat.le_trans hn₀ hW.size) h0
/-- What the law of a loop over an iterator asks of a block of cells: it abides the turn of what is no cells. -/
theorem St.own {A B : World} {p : Nat} {T : TypeId} {cs : Array Value} {row : Option Nat} (h : St A p T cs) (hg : A.grownBy B row) (hr : ∀ r, row = some r → ∃ o : Obj, A.heap[r]? = some o ∧ o.isCells = false) : St B p T cs := by
  refine h.fr (Fr.of_grown hg) fun e => ?_
  obtain ⟨o, ho, hc⟩ := hr p e.symm
  unfold St at h
  rw [h] at ho
  cases ho
  cases hc
theorem row_own {A B : World} {b n : Nat} {e : TypeId} {size : Nat} {v : Value} {xs : List Value} {row : Option Nat} (h : A.ownsRow b e size v n xs) (hg : A.grownBy B row) (hr : ∀ r, row = some r → ∃ o : Obj, A.heap[r]? = some o ∧ o.isCells = false) : B.ownsRow b e size v n xs := by
  refine own_fr h (Fr.of_grown hg) fun g hg' e => ?_
  obtain ⟨o, ho, hc⟩ := hr g e.symm
  rcases h.2 with ⟨rfl, _⟩ | ⟨g', cap, cur, rfl, _, hh, _⟩
  · cases hg'
  · simp only [Value.ownBlock, Option.map_some, Option.some.injEq] at hg'
    subst hg'
    rw [hh] at ho
    cases ho
    cases hc
theorem keeps_of_fr {S : Nat → Prop} {B : Nat} {W W' : World} (h : Fr S W W') (hc : ∀ k, S k → B ≤ k → ∀ o, W.heap[k]? = some o → o.isCells = true) : KeepsFrom B W W' := by
  refine ⟨h.size, fun k o hk ho hn => ?_⟩
  refine h.heap ho fun hs => ?_
  rw [hc k hs hk o ho] at hn
  cases hn
set_option maxHeartbeats 4000000 in
theorem appendSeq_in (n : Nat) (hn : 3 ≤ n) (g : Nat) (lb : Array Value) (S Sp : List Pr → Prop) (N : Nat) (hN : N ≤ 1099511627776) (w : World)
    (eg : ∀ args w, (callFunc g args).run Tryz.prog w = .ok (.enter g args) w)
    (hseq : SeqStopsK Fence.wide (n - 1) Tryz.prog g lb (fun x : Pr => #[prV x]) (Below w.heap.size) S Sp N w) :
    CallsIn Fence.wide n Tryz.prog 117 #[.slice none 0 0, .func (.func g) #[] lb] w fun e w' => ∃ (v : Value) (ps : List Pr), e = .returned v ∧ S ps ∧ w'.ownsRow w.heap.size 68 2 v ps.length (prsV ps) ∧ Below w.heap.size w w' := by
  have h1 : 1 ≤ n := by omega
  obtain ⟨iP, hiP, hzz⟩ := Option.map_eq_some_iff.1 infoPair
  simp only [Prod.mk.injEq] at hzz
  obtain ⟨hz0, hz1, hz2⟩ := hzz
  obtain ⟨zP, hzP, hzc⟩ := Option.map_eq_some_iff.1 hz0
  refine callsIn_of_wp_marks Tryz.func117 rfl trivial ?_ rfl
  simp only [Tryz.ntmps117, List.size_toArray, List.length_cons, List.length_nil, Nat.reduceAdd, Nat.reduceSub, Array.replicate_succ, Array.replicate_zero, List.push_toArray, List.append_toArray, List.nil_append, List.cons_append]
  gi_wp2
  obtain ⟨W0, hW0⟩ : ∃ W0, w.alloc (.cells #[.slice none 0 0] 22) = W0 := ⟨_, rfl⟩
  have hs0 : W0.heap.size = w.heap.size + 1 := by rw [← hW0]; simp
  have hb0 : Below w.heap.size w W0 := by rw [← hW0]; exact (Below.refl _ w).alloc (Nat.le_refl _) _
  have hst0 : St W0 w.heap.size 22 #[.slice none 0 0] := by rw [← hW0]; exact St.new w _ _
  rw [hW0]
  refine wpIn_rangeFunc_ownH (F := Fence.wide) rfl h1 (gf := g) (lb := lb) rfl trivial eg hseq belowK_t (belowK_b (by omega)) hb0 (fun _ => rfl)
    (fun pre W => (∃ v, St W w.heap.size 22 #[v] ∧ W.ownsRow w.heap.size 68 2 v pre.length (prsV pre)) ∧ Below w.heap.size w W)
    (fun _ _ _ => False)
    (OwnFrom.and (Own.from (fun s A B row hs hg hr => by obtain ⟨v, h1, h2⟩ := hs; exact ⟨v, h1.own hg hr, row_own h2 hg hr⟩) _) (ownFrom_below (Nat.le_refl _) (by omega)))
    (fun _ _ _ _ _ hs _ _ => hs)
    ⟨⟨_, hst0, World.ownsRow_nil _ _ _ _⟩, hb0⟩
    (fun x a' W => ∃ Bx, w.heap.size < Bx ∧ St W Bx 68 #[.int .u64 x.1, .int .u64 x.2] ∧ a' = { tmps := #[.slice none 0 0, .func (.func g) #[] lb, .pointer (some ⟨w.heap.size, 0, none⟩), undef, .slice none 0 0, .pointer (some ⟨Bx, 0, none⟩), .func (.func g) #[] lb, prV x, undef, undef, undef, undef, undef], defers := [] })
    (fun x a' s A B row hs hg hr => by obtain ⟨Bx, h1, h2, h3⟩ := hs; exact ⟨Bx, h1, h2.own hg (fun r e => (hr r e).2), h3⟩) ?assign ?body ?done ?stop
  case assign =>
    rintro l pre x W K ⟨⟨v, hst, hrow⟩, hbW⟩ hK
    have hsz := hbW.size
    unfold prV
    gi_wp2
    refine hK _ _ ((KeepsOthers.alloc _ _).from _) ((Below.refl _ W).alloc hsz _) ⟨⟨v, hst.fr (S := fun _ => False) ((Fr.refl _ _).alloc _) (fun h => h), hrow.alloc _⟩, hbW.alloc hsz _⟩ ⟨W.heap.size, by have := hst.lt; omega, St.new W _ _, rfl⟩
  case body =>
    rintro l pre x a' W hl ⟨r, hr⟩ ⟨⟨v, hst, hrow⟩, hbW⟩ ⟨Bx, hBx, hbx, rfl⟩ hlen
    have c0 : W.cell? ⟨w.heap.size, 0, none⟩ = some v := hst.cell 0 rfl
    have f0 := hst.frozen 0
    have b0 := hbx.cell 0 rfl
    have b1 := hbx.cell 1 rfl
    have l0 := hst.lt
    have hsz := hbW.size
    have hone : ∀ u ∈ [Value.int .u64 x.1, .int .u64 x.2], u.oneCell' = true := by
      intro u hu
      simp only [List.mem_cons, List.not_mem_nil, or_false] at hu
      rcases hu with rfl | rfl <;> rfl
    have hmx1 : pre.length + 1 ≤ maxLen := by simp only [maxLen]; omega
    have hmx2 : (pre.length + 1) * 16 ≤ 140737488355328 := by omega
    have hbase : w.heap.size ≤ (W.alloc (.cells #[.int .u64 x.1, .int .u64 x.2] 68)).heap.size := by simp; omega
    have hne := row_ne_st hrow hst (by decide)
    have HW := Lib.hid hbW
    have HST := Lib.hid hst
    have HR := Lib.hid hrow
    have U : Hid (∀ w3, (W.alloc (.cells #[.int .u64 x.1, .int .u64 x.2] 68)).grownBy w3 v.ownBlock → St w3 w.heap.size 22 #[v]) := Lib.hid fun w3 hg3 =>
      (HST.out.fr (S := fun _ => False) ((Fr.refl _ W).alloc _) (fun h => h)).fr (Fr.of_grown hg3) (fun e => hne e.symm)
    clear hbW hst hseq eg
    unfold prV
    gi_wp2_with (gi_at_builtin; refine wpListIn_append_own_at _ rfl _ _ 22 rfl w.heap.size 68 iP zP 2 16 Tryz.underlying22 hiP hzP hz1 hz2 hzc (by decide) v pre.length (prsV pre) rfl (hrow.alloc _) ⟨W.heap.size, 0, none⟩ 1 1 [.int .u64 x.1, .int .u64 x.2] rfl rfl (World.news_of_block (heap_alloc_new _ _)) hone hmx1 hmx2 hbase ?_; intro v' w3 hown' hg3 hnil hN3; obtain ⟨g', cap', rfl⟩ := ownsRow_succ hown'; have hst3 := U.out w3 hg3; have c3 := hst3.cell 0 rfl; have f3 := hst3.frozen 0; have l3 := hst3.lt; have HST3 := Lib.hid hst3; clear hst3)
    have hap : prsV pre ++ [.int .u64 x.1, .int .u64 x.2] = prsV (pre ++ [x]) := by rw [prsV_append]; rfl
    have fW : Fr (fun k => v.ownBlock = some k ∨ k = w.heap.size) W (w3.setCell ⟨w.heap.size, 0, none⟩ (.slice (some ⟨g', 0, none⟩) (pre.length + 1) cap')) :=
      (((Fr.refl _ W).alloc _).grown hg3 (fun k e _ => .inl e)).setCell _ (fun _ => .inr rfl)
    have hne' : (Value.slice (some ⟨g', 0, none⟩) (pre.length + 1) cap').ownBlock ≠ some w.heap.size := row_ne_st hown' HST3.out (by decide)
    have f3w : Fr (fun k => k = w.heap.size) w3 (w3.setCell ⟨w.heap.size, 0, none⟩ (.slice (some ⟨g', 0, none⟩) (pre.length + 1) cap')) := (Fr.refl _ _).set _ _
    have hbf := fW.below hsz (fun k hk => by
      rcases hk with hk | rfl
      · exact own_new HR.out hk
      · exact Nat.le_refl _)
    refine ⟨keeps_of_fr fW ?_, hbf, ⟨⟨_, by have := HST3.out.set 0 (.slice (some ⟨g', 0, none⟩) (pre.length + 1) cap'); simpa using this, ?_⟩, HW.out.trans hbf⟩⟩
    · rintro k (hk | rfl) _ o ho
      · rcases HR.out.2 with ⟨rfl, _⟩ | ⟨g1, cap, cur, rfl, _, hh, _⟩
        · cases hk
        · simp only [Value.ownBlock, Option.map_some, Option.some.injEq] at hk
          subst hk
          rw [hh] at ho
          cases ho
          rfl
      · have := HST.out
        unfold St at this
        rw [this] at ho
        cases ho
        rfl
    · rw [hap] at hown'
      rw [List.length_append]
      exact own_fr hown' f3w (fun k hk e => hne' (e ▸ hk))
  case done =>
    rintro D xs W hD hS ⟨⟨v, hst, hrow⟩, hbW⟩ hK
    have c0 : W.cell? ⟨w.heap.size, 0, none⟩ = some v := hst.cell 0 rfl
    gi_wp2
    refine ⟨by simp, .inl ⟨_, _, rfl, run_takeDeferred hK, ?_⟩⟩
    exact ⟨_, results_tmp rfl _ _ _, v, xs, rfl, hS, row_own hrow (grownBy_putObj' W D _) (fun r e => by cases e; exact ⟨_, hK, rfl⟩), hbW.trans (belowK_b (w := w) (Nat.le_refl _) W D _ _ (by omega) hK rfl rfl)⟩
  case stop =>
    rintro D c pre W _ _ h _
    exact h.elim
end Go.Proofs.YtbbplhpkhholeaaGreatDoor
