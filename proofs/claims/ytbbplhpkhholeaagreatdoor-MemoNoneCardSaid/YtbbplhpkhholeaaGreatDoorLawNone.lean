/- The law MemoNone: its walk. -/
import Derived.Test.YtbbplhpkhholeaaGreatDoorNone
set_option linter.unusedVariables false
set_option linter.unusedSimpArgs false
set_option maxRecDepth 20000
namespace Go.Proofs.YtbbplhpkhholeaaGreatDoor
open Go.RowKit Go.Maps Go.Shelf Go.Sort

attribute [local go_sem] Oper.semAt_some

set_option maxHeartbeats 1600000 in
theorem law_none (w : World) (key a b : Int) : Calls Tryz.prog 6 #[.int .u64 key, .agg #[.int .u64 a, .int .u64 b]] w fun e w' => e = .returned (.bool true) ∧ Below w.heap.size w w' := by
  refine (callsIn_wide (n := 9)).1 ?_
  refine callsIn_of_wp_marks Tryz.func6 rfl trivial ?_ rfl
  simp only [Tryz.ntmps6, List.size_toArray, List.length_cons, List.length_nil, Nat.reduceAdd, Nat.reduceSub, Array.replicate_succ, Array.replicate_zero, List.push_toArray, List.append_toArray, List.nil_append, List.cons_append]
  obtain ⟨W1, hW1⟩ : ∃ W1, (w.alloc (.cells #[.int .u64 a, .int .u64 b] 68)).alloc (.cells #[.bool false] 4) = W1 := ⟨_, rfl⟩
  have hF1 : Fr (fun _ => False) w W1 := by rw [← hW1]; exact ((Fr.refl _ _).alloc _).alloc _
  have st1 : St W1 (w.heap.size + 1) 4 #[.bool false] := by
    rw [← hW1]
    have := St.new (w.alloc (.cells #[.int .u64 a, .int .u64 b] 68)) 4 #[.bool false]
    simpa using this
  have sp1 : St W1 w.heap.size 68 #[.int .u64 a, .int .u64 b] := by
    rw [← hW1]
    exact (St.new w 68 #[.int .u64 a, .int .u64 b]).fr (S := fun _ => False) ((Fr.refl _ _).alloc _) (fun h => h)
  have HW := Lib.hid (fun w => wakes_any w)
  have HF1 := Lib.hid hF1
  have HT1 := Lib.hid st1
  have HP1 := Lib.hid sp1
  clear hF1 st1 sp1
  gi_wp2_with fail
  clear hW1
  refine ⟨trivial, callsIn_wide.2 ((HW.out W1).mono ?_)⟩
  rintro e w2 ⟨rfl, hf2⟩
  have HF2 : Hid (Fr (fun _ => False) W1 w2) := Lib.hid hf2
  have ho := open_nil w2 key
  have hn := new_any w2
  have HO := Lib.hid ho
  have HN := Lib.hid hn
  clear ho hn hf2
  gi_wp2_with fail
  refine ⟨trivial, callsIn_wide.2 (HO.out.mono ?_)⟩
  rintro e w3 ⟨rfl, rfl⟩
  gi_wp2_with fail
  refine ⟨trivial, callsIn_wide.2 (HN.out.mono ?_)⟩
  rintro e w3 ⟨p, S, rfl, _, _, hb3⟩
  have hf3 : Fr (fun _ => False) W1 w3 := HF2.out.trans' (Fr.same' hb3)
  have c0 : w3.cell? ⟨w.heap.size, 0, none⟩ = some (.int .u64 a) := hf3.cell (HP1.out.cell 0 rfl) (fun h => h)
  have c1 : w3.cell? ⟨w.heap.size, 1, none⟩ = some (.int .u64 b) := hf3.cell (HP1.out.cell 1 rfl) (fun h => h)
  have hz := open_zero w3 p
  have hsn := standin_nil w3 a
  have hea := each_any w3 none
  have HF3 := Lib.hid hf3
  have HZ := Lib.hid hz
  have HSN := Lib.hid hsn
  have HEA := Lib.hid hea
  clear hz hsn hea hf3 hb3
  gi_wp2_with fail
  refine ⟨trivial, callsIn_wide.2 (HZ.out.mono ?_)⟩
  rintro e w4 ⟨rfl, rfl⟩
  gi_wp2_with fail
  refine ⟨trivial, callsIn_wide.2 (HSN.out.mono ?_)⟩
  rintro e w4 ⟨rfl, rfl⟩
  gi_wp2_with fail
  refine ⟨trivial, callsIn_wide.2 (HEA.out.mono ?_)⟩
  rintro e w4 ⟨rfl, hw4⟩
  have hf4 : Fr (fun _ => False) w3 w4 := by rw [← hw4]; exact (Fr.refl _ _).alloc _
  have b4 : w4.cell? ⟨w3.heap.size, 0, none⟩ = some (.pointer none) := by rw [← hw4]; simp
  have HF4 := Lib.hid hf4
  clear hw4 hf4
  gi_wp2_with fail
  refine wpIn_rangeFunc_ownH (F := Fence.wide) rfl (by omega) (gf := 67) (lb := #[.pointer (some ⟨w3.heap.size, 0, none⟩)]) rfl trivial (fun _ _ => rfl)
    (each_nil (9 - 1) w4 w3.heap.size (fun _ => #[.agg #[.int .u64 0, .int .u64 0]]) (fun _ _ => True) (fun _ => True) 0 b4) (fun _ _ => trivial) (fun _ _ _ _ _ _ _ _ => trivial) (Below.refl _ _) (fun _ => rfl)
    (fun pre W => Fr (fun _ => False) w4 W) (fun _ _ _ => False)
    (fun s A B row hs hg hr => hs.grown hg (fun k e hk => by have := (hr k e).1; omega)) (fun _ _ _ _ _ hs _ _ => hs) (Fr.refl _ _) (fun _ _ _ => True) (fun _ _ _ _ _ _ _ _ _ => trivial) ?assign ?body ?done ?stop
  case assign =>
    intro l pre x W K hi hK
    gi_wp2
    exact hK _ _ (KeepsFrom.refl _ _) trivial hi trivial
  case body =>
    intro l pre x a' W _ _ _ _ h
    exact absurd h (Nat.not_lt_zero _)
  case stop =>
    rintro D c pre W _ _ h _
    exact h.elim
  case done =>
    rintro D xs W hD rfl hI hK
    have hfW : Fr (fun _ => False) W1 W := HF3.out.trans' (HF4.out.trans' hI)
    have d0 : W.cell? ⟨w.heap.size, 0, none⟩ = some (.int .u64 a) := hfW.cell (HP1.out.cell 0 rfl) (fun h => h)
    have d1 : W.cell? ⟨w.heap.size, 1, none⟩ = some (.int .u64 b) := hfW.cell (HP1.out.cell 1 rfl) (fun h => h)
    have HFW := Lib.hid hfW
    have HI := Lib.hid hI
    have HK := Lib.hid hK
    have hls := hfW.size
    have lt1 := HT1.out.lt
    obtain ⟨W6, hW6⟩ : ∃ W6, W.alloc (.cells #[.int .u64 a, .int .u64 b] 68) = W6 := ⟨_, rfl⟩
    have hf6 : Fr (fun _ => False) W W6 := by rw [← hW6]; exact (Fr.refl _ _).alloc _
    have e1 : W6.cell? ⟨w.heap.size, 1, none⟩ = some (.int .u64 b) := hf6.cell d1 (fun h => h)
    have HAD := Lib.hid (fun v => add_nil W6 v)
    have HSR := Lib.hid (sources_nil W6 b)
    have HF6 := Lib.hid hf6
    clear hfW hI hK hf6
    gi_wp2_with fail
    refine ⟨trivial, callsIn_wide.2 ((HAD.out _).mono ?_)⟩
    rintro e w7 ⟨rfl, rfl⟩
    gi_wp2_with fail
    refine ⟨trivial, callsIn_wide.2 (HSR.out.mono ?_)⟩
    rintro e w8 ⟨rfl, hf8⟩
    have HF8 := Lib.hid hf8
    have HL := Lib.hid (mlen_nil w8)
    have HR := Lib.hid (runs_nil w8)
    have HKY := Lib.hid (keys_nil w8)
    clear hf8
    gi_wp2_with fail
    refine ⟨trivial, callsIn_wide.2 (HL.out.mono ?_)⟩
    rintro e w9 ⟨rfl, rfl⟩
    gi_wp2_with fail
    refine ⟨trivial, callsIn_wide.2 (HR.out.mono ?_)⟩
    rintro e w9 ⟨rfl, rfl⟩
    gi_wp2_with fail
    refine ⟨trivial, callsIn_wide.2 (HKY.out.mono ?_)⟩
    rintro e w9 ⟨rfl, rfl⟩
    gi_wp2_with fail
    refine ⟨trivial, callsIn_wide.2 ((HW.out w8).mono ?_)⟩
    rintro e w9 ⟨rfl, hf9⟩
    have hfz : Fr (fun _ => False) W w9 := HF6.out.trans' (HF8.out.trans' hf9)
    have st9 : St w9 (w.heap.size + 1) 4 #[.bool false] := HT1.out.fr (HFW.out.trans' hfz) (fun h => h)
    have hK9 : w9.heap[D]? = some (.deferred (some [])) := hfz.heap HK.out (fun h => h)
    have HFZ := Lib.hid hfz
    have k0 : w9.cell? ⟨w.heap.size + 1, 0, none⟩ = some (.bool false) := st9.cell 0 rfl
    have g0 := st9.frozen 0
    have l9 := st9.lt
    clear hf9 hfz st9
    gi_wp2
    have hDz : w.heap.size + 1 < D := by
      have h1 := HF3.out.size
      have h2 := HF4.out.size
      omega
    have hK10 : (w9.setCell ⟨w.heap.size + 1, 0, none⟩ (.bool true)).heap[D]? = some (.deferred (some [])) := (KeepsOthers.setCell w9 ⟨w.heap.size + 1, 0, none⟩ (.bool true)).same D _ hK9 rfl
    have fD := Fr.of_grown (grownBy_putObj' (w9.setCell ⟨w.heap.size + 1, 0, none⟩ (.bool true)) D (.deferred none))
    have hc : (w9.setCell ⟨w.heap.size + 1, 0, none⟩ (.bool true)).cell? ⟨w.heap.size + 1, 0, none⟩ = some (.bool true) := World.cell?_setCell_same' _ _ _ (by rw [k0]; rfl)
    have hc2 := fD.cell hc (fun h => by have h2 := Option.some.inj h; simp only at h2; omega)
    refine ⟨by simp, .inl ⟨_, _, rfl, run_takeDeferred hK10, ?_⟩⟩
    refine ⟨.bool true, ?_, rfl, ?_⟩
    · simp [results, hc2, go_sem]
    · have f1 : Fr (fun _ => False) w w9 := HF1.out.trans' (HFW.out.trans' HFZ.out)
      have f2 : Fr (fun k => k = w.heap.size + 1) w9 (w9.setCell ⟨w.heap.size + 1, 0, none⟩ (.bool true)) := (Fr.refl _ _).set _ _
      exact ((f1.trans f2 (fun i hi h => by omega)).trans fD (fun i hi h => by have h2 := Option.some.inj h; omega)).below (Nat.le_refl _) (fun k h => h.elim)
end Go.Proofs.YtbbplhpkhholeaaGreatDoor
