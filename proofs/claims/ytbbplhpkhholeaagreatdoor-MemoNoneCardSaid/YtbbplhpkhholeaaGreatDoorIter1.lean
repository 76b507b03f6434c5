/- Pairs in memory; slices.Values over them. -/
import Derived.Test.YtbbplhpkhholeaaGreatDoorJn4
import Derived.RangeFuncNested
import Derived.RangeFuncBound
import Derived.RangeFuncCalls
import Derived.RangeFuncLeaves
import Derived.RangeFuncBox
import Derived.Shelf.Abstract
import Derived.OwnWalkIn
import Derived.TacticsInMore
import Derived.LoopNIn
import Derived.LoopIn
set_option linter.unusedVariables false
set_option linter.unusedSimpArgs false
set_option maxRecDepth 20000
namespace Go.Proofs.YtbbplhpkhholeaaGreatDoor
open Go.RowKit Go.Maps Go.Shelf

attribute [local go_sem] Oper.semAt_some

/-- A pair: from, to. -/
abbrev Pr := Int × Int
def prV (p : Pr) : Value := .agg #[.int .u64 p.1, .int .u64 p.2]
def prsV (ps : List Pr) : List Value := ps.flatMap fun p => [.int .u64 p.1, .int .u64 p.2]
theorem prsV_length (ps : List Pr) : (prsV ps).length = ps.length * 2 := by
  induction ps with
  | nil => rfl
  | cons p ps ih => simp only [prsV, List.flatMap_cons, List.length_append, List.length_cons, List.length_nil] at *; omega
theorem prsV_append (ps qs : List Pr) : prsV (ps ++ qs) = prsV ps ++ prsV qs := by simp [prsV]
theorem prsV_one (ps : List Pr) : ∀ u ∈ prsV ps, u.oneCell' = true := by
  intro u hu
  obtain ⟨p, _, hp⟩ := List.mem_flatMap.1 hu
  simp only [List.mem_cons, List.not_mem_nil, or_false] at hp
  rcases hp with rfl | rfl <;> rfl
theorem prsV_at : ∀ (ps : List Pr) (k : Nat) (p : Pr), ps[k]? = some p → (prsV ps)[k * 2]? = some (.int .u64 p.1) ∧ (prsV ps)[k * 2 + 1]? = some (.int .u64 p.2)
  | [], k, p, h => by simp at h
  | q :: ps, 0, p, h => by
    simp only [List.getElem?_cons_zero, Option.some.injEq] at h
    subst h
    simp [prsV]
  | q :: ps, k + 1, p, h => by
    simp only [List.getElem?_cons_succ] at h
    have := prsV_at ps k p h
    have e : prsV (q :: ps) = .int .u64 q.1 :: .int .u64 q.2 :: prsV ps := by simp [prsV]
    rw [e, show (k + 1) * 2 = k * 2 + 1 + 1 from by omega]
    simpa using this
/-- A slice of pairs. -/
def SlP (w : World) (v : Value) (ps : List Pr) : Prop := Sl w 2 v ps.length (prsV ps)
theorem SlP.form {w : World} {v : Value} {ps : List Pr} (h : SlP w v ps) : ∃ (A : Option Addr) (c : Nat), v = .slice A ps.length c ∧ ps.length ≤ c ∧ c ≤ 9223372036854775807 ∧
    ∀ (k : Nat) (p : Pr), ps[k]? = some p → ∃ b off, A = some ⟨b, off, none⟩ ∧ w.cell? ⟨b, off + k * 2, none⟩ = some (.int .u64 p.1) ∧ w.cell? ⟨b, off + k * 2 + 1, none⟩ = some (.int .u64 p.2) := by
  obtain ⟨A, c, rfl, l1, l2, l3, l4, l5, l6⟩ := h
  refine ⟨A, c, rfl, l2, l3, fun k p hk => ?_⟩
  have hkl : k < ps.length := (List.getElem?_eq_some_iff.1 hk).1
  cases A with
  | none => have := l4 rfl; omega
  | some ad =>
    obtain ⟨bb, oo, sp⟩ := ad
    obtain ⟨e1, e2⟩ := l6 _ rfl
    simp only at e1
    subst e1
    obtain ⟨p1, p2⟩ := prsV_at ps k p hk
    exact ⟨bb, oo, rfl, e2 _ _ p1, by have := e2 _ _ p2; rw [Nat.add_assoc]; exact this⟩
set_option maxHeartbeats 2000000 in
/-- slices.Values's closure. -/
theorem values1_in (n : Nat) (hn : 1 ≤ n) (l Bs n₀ : Nat) (v : Value) (ps : List Pr) (J Jx : List Pr → World → Prop) (W : World) (hJ : AbidesFrom W.heap.size J) 
    (hY : ∀ pre x W, J pre W → pre.length < ps.length → YieldAt Fence.wide (n - 1) Tryz.prog l #[prV x] W fun e W' =>
      (e = .returned (.bool true) ∧ J (pre ++ [x]) W' ∧ Below n₀ W W') ∨ (e = .returned (.bool false) ∧ Jx (pre ++ [x]) W'))
    (hBs : W.cell? ⟨Bs, 0, none⟩ = some v) (hs : SlP W v ps) (hv : ∀ g, v.ownBlock = some g → 0 < ps.length → g < n₀) (hn₀ : n₀ ≤ W.heap.size) (h0 : J [] W) :
    CallsIn Fence.wide n Tryz.prog 76 #[.func (.yield l) #[] #[], .pointer (some ⟨Bs, 0, none⟩)] W fun e W' => (∃ v, e = .returned v) ∧
      ((∃ ys, ys = ps ∧ J ys W') ∨ (∃ pre, pre <+: ps ∧ Jx pre W')) := by
  obtain ⟨A, c, rfl, hlc, hcc, hat⟩ := hs.form
  have HJ := Lib.hid hJ
  have HS := Lib.hid hs
  clear hJ hs
  refine callsIn_of_wp Tryz.func76 rfl trivial ?_ rfl
  simp only [Tryz.ntmps76, List.size_toArray, List.length_cons, List.length_nil, Nat.reduceAdd, Nat.reduceSub, Array.replicate_succ, Array.replicate_zero, List.push_toArray, List.append_toArray, List.nil_append, List.cons_append]
  gi_wp2
  gi_loopw [7] (fun i wr => ∃ k : Nat, k ≤ ps.length ∧ i = .int .i64 k ∧ J (ps.take k) wr ∧ Below n₀ W wr)
    (fun i _ => ps.length - (intOf i).toNat)
  case atStart => exact ⟨0, Nat.zero_le _, rfl, h0, Below.refl _ _⟩
  case round =>
    obtain ⟨k, hk, rfl, hJs, hnx⟩ := hrel
    by_cases hlt : k < ps.length
    · obtain ⟨x, hx⟩ : ∃ x, ps[k]? = some x := ⟨_, List.getElem?_eq_getElem hlt⟩
      obtain ⟨b, off, rfl, e1, e2⟩ := hat k x hx
      have hb := hv b rfl (by omega)
      have e1' := (hnx.cell (p := ⟨b, off + k * 2, none⟩) hb).trans e1
      have e2' := (hnx.cell (p := ⟨b, off + k * 2 + 1, none⟩) hb).trans e2
      have hsz := hnx.size
      have hJ' : J (ps.take k) (wr.alloc (.cells #[.int .u64 x.1, .int .u64 x.2] 68)) := HJ.out _ _ _ none hJs (World.grownBy_alloc _ _ none) (fun r e => by cases e)
      have hY' := hY _ x _ hJ' (by rw [List.length_take]; omega)
      unfold prV at hY'
      obtain ⟨fn, tmps, assign, body, hy, hR⟩ := hY'
      have htk : ps.take (k + 1) = ps.take k ++ [x] := by rw [List.take_add_one, hx]; rfl
      clear hY e1 e2
      gi_wp2
      refine hR.mono ?_
      rintro e W3 (⟨rfl, hJ3, hk3⟩ | ⟨rfl, hJx3⟩)
      · gi_wp2
        go_roundw
        case rel => exact ⟨k + 1, by omega, by simp, by rw [htk]; exact hJ3, (hnx.alloc (by omega) _).trans hk3⟩
        case measure => simp [intOf]; omega
      · gi_wp2
        refine bodyPost_ret (results_none rfl _ _ _) rfl ?_
        exact ⟨⟨_, rfl⟩, .inr ⟨_, by rw [← htk]; exact List.take_prefix _ _, hJx3⟩⟩
    · gi_wp2
      go_end0
      refine ⟨⟨_, rfl⟩, .inl ⟨_, rfl, ?_⟩⟩
      rw [List.take_of_length_le (by omega)] at hJs
      exact hJs
end Go.Proofs.YtbbplhpkhholeaaGreatDoor
