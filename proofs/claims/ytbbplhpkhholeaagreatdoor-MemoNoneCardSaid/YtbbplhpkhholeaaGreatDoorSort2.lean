/- slices.SortFunc, SortedFunc at pairs, by run.byFrom. -/
import Derived.Test.YtbbplhpkhholeaaGreatDoorSort1
set_option linter.unusedVariables false
set_option linter.unusedSimpArgs false
set_option maxRecDepth 20000
namespace Go.Proofs.YtbbplhpkhholeaaGreatDoor
open Go.RowKit Go.Maps Go.Shelf Go.Sort

theorem sortWorldK_fr (w : World) (g n : Nat) (d : Array Pr) (os : Array Obj) : w.grownBy (sortWorldK encP 2 w g 0 n d os) (some g) := by
  unfold sortWorldK putRowK
  refine ⟨rfl, rfl, rfl, by simp, fun k hk hne => ?_⟩
  rw [heap_grow_old _ _ (by simpa using hk)]
  have : g ≠ k := fun e => hne (by rw [e])
  simp [putRow, mapBlock, Sort.ahead, Array.getElem?_modify, this]
theorem sortWorldK_heap {w : World} {g n : Nat} {os : Array Obj} {cur : Array Value} {e : TypeId} (d : Array Pr) (hb : w.heap[g]? = some (.cells cur e (0, 0))) :
    (sortWorldK encP 2 w g 0 n d os).heap[g]? = some (.cells (putCells id 0 (flatK encP 2 d) cur) e (0, 0)) := by
  have hg : g < w.heap.size := (Array.getElem?_eq_some_iff.1 hb).1
  unfold sortWorldK putRowK
  rw [heap_grow_old _ _ (by simpa using hg)]
  simp [putRow, mapBlock, Sort.ahead, Array.getElem?_modify, hb, onCells]
theorem take_putK (cur X : Array Value) (h : X.size ≤ cur.size) : (putCells id 0 X cur).toList.take X.size = X.toList := by
  apply List.ext_getElem?
  intro j
  by_cases hj : j < X.size
  · rw [List.getElem?_take_of_lt hj, Array.getElem?_toList, Array.getElem?_toList]
    simp [putCells, hj, show j < cur.size by omega]
  · rw [List.getElem?_take_eq_none (by omega), List.getElem?_eq_none (by simp; omega)]
def sorted (ps : List Pr) : Prop := ps.Pairwise (fun a b => a.1 ≤ b.1)
theorem sorted_of {d : Array Pr} (h : SortedIn (ltOf cmpP) 0 d.size d) : sorted d.toList := by
  unfold sorted
  rw [List.pairwise_iff_getElem]
  intro i j hi hj hij
  have := h i j (Nat.zero_le _) hij (by simpa using hj)
  rw [ltP] at this
  simp only [decide_eq_false_iff_not, Int.not_lt] at this
  rw [getElem!_pos d i (by simpa using hi), getElem!_pos d j (by simpa using hj)] at this
  simpa using this
theorem sortPr_any (w : World) (B : Nat) (v : Value) (ps : List Pr) (h : w.ownsRow B 68 2 v ps.length (prsV ps)) (hl : ps.length ≤ 1099511627776) :
    Calls Tryz.prog 75 #[v, .func (.func 38) #[] #[]] w fun e w' => e = .returned (.tuple #[]) ∧ ∃ ps', ps'.Perm ps ∧ sorted ps' ∧ w'.ownsRow B 68 2 v ps'.length (prsV ps') ∧ Fr (fun k => v.ownBlock = some k) w w' := by
  rcases h.2 with ⟨rfl, h0⟩ | ⟨g, cap, cur, rfl, hB, hb, h1, h2, h3, h4⟩
  · have hnil : ps = [] := List.eq_nil_of_length_eq_zero h0
    subst hnil
    refine (AnyF.slices_SortFunc_none Tryz.sortPr none 0 _ w).mono ?_
    rintro e w' ⟨rfl, rfl⟩
    exact ⟨rfl, [], List.Perm.refl _, List.Pairwise.nil, h, Fr.refl _ _⟩
  · have eg : ∀ args w, (callFunc 38 args).run Tryz.prog w = .ok (.enter 38 args) w := fun _ _ => rfl
    have hsize : ps.toArray.size = ps.length := by simp
    have hH : HoldsK encP 2 w g 0 ps.toArray := by
      intro j hj
      have hj' : j < ps.length * 2 := by simpa using hj
      refine ⟨?_, by simp [World.frozen?, hb]⟩
      have e1 : (cur.toList.take (ps.length * 2))[j]? = (prsV ps)[j]? := by rw [h4]
      rw [List.getElem?_take_of_lt hj'] at e1
      simp only [World.cell?, hb, Nat.zero_add]
      simp only [Option.isSome_none, Bool.false_eq_true, if_false]
      rw [← Array.getElem?_toList, e1, ← flatK_prs, Array.getElem?_toList, Array.getElem?_eq_getElem (by simpa using hj'), ← getElem!_pos]
      rfl
    have hcon := AnyQ.slices_SortFunc Tryz.sortPr 2 Tryz.isAgg68 Tryz.sizeOf68 encP (fun _ => rfl) (fun x v hv => by simp [encP] at hv; rcases hv with rfl | rfl <;> rfl) cmpP swoP 38 #[] g 0 cap ps.toArray w eg
      (byFrom_lays g 0 _ w) hH (Array.getElem?_eq_some_iff.1 hb).1 (by rw [hsize]; omega)
    rw [hsize] at hcon
    refine hcon.mono ?_
    rintro e w' ⟨rfl, d', n, os, hp, hs, rfl⟩
    obtain ⟨p1, _, p3⟩ := hp
    have hd : d'.size = ps.length := by rw [p1, hsize]
    have hperm : d'.toList.Perm ps := by
      rw [← hsize, show ps.toArray.size = d'.size by rw [p1]] at p3
      have : ps.toArray.extract 0 d'.size = ps.toArray := by rw [p1]; simp
      rw [this] at p3
      simpa using p3
    have hs' : sorted d'.toList := sorted_of (by rw [hd]; exact hs)
    refine ⟨rfl, d'.toList, hperm, hs', ?_, (Fr.of_grown (sortWorldK_fr w g n d' os)).mono (fun i _ e => by simpa [Value.ownBlock] using e.symm)⟩
    have hfl : (flatK encP 2 d').toList = prsV d'.toList := by have := flatK_prs d'.toList; simpa using this
    refine ⟨by rw [prsV_length], .inr ⟨g, cap, _, by rw [hperm.length_eq], hB, sortWorldK_heap d' hb, by rw [hperm.length_eq]; exact h1, h2, by simp [putCells, h3], ?_⟩⟩
    have := take_putK cur (flatK encP 2 d') (by rw [size_flatK, hd, h3]; omega)
    rw [hfl] at this
    rw [← this]
    simp
/-- slices.Collect. -/
theorem collect_any (w : World) (g : Nat) (lb : Array Value) (ps : List Pr) (Sp : List Pr → Prop) (hN : ps.length ≤ 1099511627776) (eg : ∀ args w, (callFunc g args).run Tryz.prog w = .ok (.enter g args) w)
    (hseq : SeqStopsK Fence.wide 8 Tryz.prog g lb (fun x : Pr => #[prV x]) (Below w.heap.size) (fun ys => ys = ps) Sp ps.length w) :
    Calls Tryz.prog 74 #[.func (.func g) #[] lb] w fun e w' => ∃ (v : Value), e = .returned v ∧ w'.ownsRow w.heap.size 68 2 v ps.length (prsV ps) ∧ Below w.heap.size w w' := by
  have h := callsIn_wide.1 (appendSeq_in 9 (by omega) g lb _ Sp ps.length hN w eg hseq)
  have H := Lib.hid h
  clear h hseq eg
  go_enter Tryz.func74, Tryz.ntmps74
  go_wp2_with fail
  refine H.out.mono ?_
  rintro e w1 ⟨v, ps', rfl, rfl, ho, hb⟩
  have HO := Lib.hid ho
  have HB := Lib.hid hb
  clear ho hb
  go_wp2
  go_ret
  exact ⟨v, rfl, HO.out, HB.out⟩
/-- slices.SortedFunc(slices.Values(l), byFrom). -/
theorem sortedFunc_any (w : World) (g : Nat) (lb : Array Value) (ps : List Pr) (Sp : List Pr → Prop) (hN : ps.length ≤ 1099511627776) (eg : ∀ args w, (callFunc g args).run Tryz.prog w = .ok (.enter g args) w)
    (hseq : SeqStopsK Fence.wide 8 Tryz.prog g lb (fun x : Pr => #[prV x]) (Below w.heap.size) (fun ys => ys = ps) Sp ps.length w) :
    Calls Tryz.prog 36 #[.func (.func g) #[] lb, .func (.func 38) #[] #[]] w fun e w' => ∃ (v : Value) (ps' : List Pr), e = .returned v ∧ ps'.Perm ps ∧ sorted ps' ∧ w'.ownsRow w.heap.size 68 2 v ps'.length (prsV ps') ∧ Below w.heap.size w w' := by
  have h := collect_any w g lb ps Sp hN eg hseq
  have H := Lib.hid h
  clear h hseq eg
  go_enter Tryz.func36, Tryz.ntmps36
  go_wp2_with fail
  refine H.out.mono ?_
  rintro e w1 ⟨v, rfl, ho, hb⟩
  have HO := Lib.hid ho
  have HB := Lib.hid hb
  clear ho hb
  go_wp2_with fail
  refine (sortPr_any w1 _ v ps HO.out hN).mono ?_
  rintro e w2 ⟨rfl, ps', hp, hs, ho2, hf2⟩
  have HO2 := Lib.hid ho2
  have HF2 := Lib.hid hf2
  clear ho2 hf2
  go_wp2
  go_ret
  refine ⟨v, ps', rfl, hp, hs, HO2.out, HB.out.trans (HF2.out.below HB.out.size (fun k hk => own_new HO.out hk))⟩
end Go.Proofs.YtbbplhpkhholeaaGreatDoor
