/- Opening a journal and a memo on a disk that holds no files. -/
import Derived.Test.YtbbplhpkhholeaaGreatDoorMemo4
import Derived.Test.YtbbplhpkhholeaaGreatDoorHex
set_option linter.unusedVariables false
set_option linter.unusedSimpArgs false
set_option maxRecDepth 20000
namespace Go.Proofs.YtbbplhpkhholeaaGreatDoor
open Go.RowKit Go.Maps Go.Shelf Go.Sort

attribute [local go_sem] Oper.semAt_some

theorem hexN_byts (x : Int) : Byts (hexN x) := by
  intro y hy
  simp only [hexN, List.mem_map] at hy
  obtain ⟨j, _, rfl⟩ := hy
  have h1 := Int.emod_nonneg (x / 16 ^ (15 - j)) (show (16 : Int) ≠ 0 by decide)
  have h2 := Int.emod_lt_of_pos (x / 16 ^ (15 - j)) (show (0 : Int) < 16 by decide)
  unfold hexd
  split <;> omega
theorem jopen_absent (w : World) (p : Nat) (d : Dk) (Sd : Nat → Prop) (file : ByteArray) (hd : IsDisk w p d Sd) (hf : flook d.fs file = none) (hfl : file.size ≤ maxLen) :
    Calls Tryz.prog 41 #[.pointer (some ⟨p, 0, none⟩), .string file] w fun en w' => ∃ q S, en = .returned (.tuple #[.pointer (some ⟨q, 0, none⟩), .int .i64 0]) ∧ IsJn w' q p file ⟨[], 0, false⟩ S ∧ (∀ k, S k → w.heap.size ≤ k) ∧ Below w.heap.size w w' := by
  have hread := dread_any w p d Sd file hd hfl
  rw [hf] at hread
  simp only [Option.getD_none, Option.isSome_none, Bool.false_eq_true, if_false, List.length_nil] at hread
  have HR := Lib.hid hread
  clear hread hd hf
  go_enter Tryz.func41, Tryz.ntmps41
  go_wp2_with fail
  go_step3
  go_wp2_with fail
  refine HR.out.mono ?_
  rintro e w1 ⟨v1, rfl, ho1, hb1⟩
  have hsl : SlN w1 .u8 v1 [] := SlN.of_own ho1
  obtain ⟨A, c, rfl, _, hc, _⟩ := hsl.form
  simp only [List.length_nil]
  have HB1 := Lib.hid hb1
  have HSL := Lib.hid hsl
  clear ho1 hb1 hsl
  obtain ⟨W1, hW1⟩ : ∃ W1, w1.alloc (.cells #[.pointer (some ⟨p, 0, none⟩), .string file, .slice none 0 0, .slice none 0 0, .int .i64 0, .bool false] 153) = W1 := ⟨_, rfl⟩
  have hbW : Below w.heap.size w W1 := by rw [← hW1]; exact HB1.out.alloc HB1.out.size _
  have hstW : St W1 w1.heap.size 153 #[.pointer (some ⟨p, 0, none⟩), .string file, .slice none 0 0, .slice none 0 0, .int .i64 0, .bool false] := by rw [← hW1]; exact St.new w1 _ _
  have hro := read_any W1 (.slice A 0 c) [] (by rw [← hW1]; exact (HSL.out.alloc _)) Byts.nil (by simp)
  have HRO := Lib.hid hro
  have HBW := Lib.hid hbW
  have HST := Lib.hid hstW
  clear hro hbW hstW
  go_wp2_with fail
  refine HRO.out.mono ?_
  rintro e w2 ⟨pr, qr, rfl, hpr, hqr, hrd, hb2⟩
  have HB2 := Lib.hid hb2
  have HRD := Lib.hid hrd
  have hst2 := HST.out.fr (Fr.same' hb2) (fun h => h)
  have HS2 := Lib.hid hst2
  have c4 : w2.cell? ⟨w1.heap.size, 4, none⟩ = some (.int .i64 0) := hst2.cell 4 rfl
  clear hb2 hrd hst2
  go_wp2_with fail
  go_step3
  go_wp2_with fail
  go_loopw [10] (fun t10 wr => w2 = wr) (fun _ _ => 0)
  case atStart => exact rfl
  case round =>
    subst hrel
    have hl := left_any w2 pr qr [] 0 HRD.out
    have HL := Lib.hid hl
    clear hl
    go_wp2_with fail
    refine HL.out.mono ?_
    rintro e w3 ⟨rfl, rfl⟩
    go_wp2
    simp only [Exit.noGoto_ret]
    go_ret2
    have hsz : w.heap.size ≤ w1.heap.size := HB1.out.size
    refine ⟨w1.heap.size, fun k => k = w1.heap.size, rfl, ⟨.slice none 0 0, .slice none 0 0, HS2.out, World.ownsRow_nil _ _ _ _, World.ownsRow_nil _ _ _ _, fun r hr => (by cases hr), rfl, fun g hg => (by cases hg), fun g hg => (by cases hg), fun k hk => hk ▸ HS2.out.lt⟩, fun k hk => by omega, HBW.out.trans (HB2.out.mono HBW.out.size)⟩
/-- Each over a journal of no records. -/
theorem jeach_any (w : World) (q : Nat) : Calls Tryz.prog 42 #[.pointer (some ⟨q, 0, none⟩)] w fun en w' => en = .returned (.func (.func 89) #[] #[.pointer (some ⟨w.heap.size, 0, none⟩)]) ∧ w.alloc (.cells #[.pointer (some ⟨q, 0, none⟩)] 89) = w' := by
  go_enter Tryz.func42, Tryz.ntmps42
  go_wp2
  go_ret
  exact ⟨rfl, rfl⟩
theorem jeach_zero (n : Nat) (w : World) (bx q p : Nat) (file : ByteArray) (j : Jn) (Sj : Nat → Prop) (encs : Unit → Array Value) (Kp : World → World → Prop) (Sp : List Unit → Prop) (N : Nat) (hbx : w.cell? ⟨bx, 0, none⟩ = some (.pointer (some ⟨q, 0, none⟩))) (hj : IsJn w q p file j Sj) (h0 : j.recs = []) :
    SeqStopsK Fence.wide n Tryz.prog 89 #[.pointer (some ⟨bx, 0, none⟩)] encs Kp (fun ys => ys = []) Sp N w := fun l J Jx W hW _ _ _ hJ0 => by
  have hfr : Fr (fun _ => False) w W := Fr.same' hW
  have hbx' := hfr.cell hbx (fun h => h)
  have hjW := hj.fr hfr (fun _ _ h => h)
  have hlen := jlen_any W q p file j Sj hjW
  rw [h0] at hlen
  have HL := Lib.hid hlen
  have HJ := Lib.hid hJ0
  clear hlen hjW hj hfr hJ0
  refine callsIn_wide.2 ?_
  go_enter Tryz.func89, Tryz.ntmps89
  go_wp2_with fail
  refine HL.out.mono ?_
  rintro e w1 ⟨rfl, rfl⟩
  go_wp2
  go_loopw [6] (fun t6 wr => t6 = .int .i64 0 ∧ W = wr) (fun _ _ => 0)
  case atStart => exact ⟨rfl, rfl⟩
  case round =>
    obtain ⟨rfl, rfl⟩ := hrel
    go_wp2
    go_end0
    exact ⟨⟨_, rfl⟩, .inl ⟨[], rfl, HJ.out⟩⟩
theorem mread_nil (w : World) (mp : Nat) : Calls Tryz.prog 44 #[.pointer (some ⟨mp, 0, none⟩), .slice none 0 0] w fun en w' => en = .returned (.bool true) ∧ Fr (fun _ => False) w w' := by
  refine (callsIn_wide (n := 9)).1 ?_
  refine callsIn_of_wp_marks Tryz.func44 rfl trivial ?_ rfl
  simp only [Tryz.ntmps44, List.size_toArray, List.length_cons, List.length_nil, Nat.reduceAdd, Nat.reduceSub, Array.replicate_succ, Array.replicate_zero, List.push_toArray, List.append_toArray, List.nil_append, List.cons_append]
  gi_wp2
  obtain ⟨W1, hW1⟩ : ∃ W1, (w.alloc (.cells #[.pointer (some ⟨mp, 0, none⟩)] 29)).alloc (.cells #[.bool false] 4) = W1 := ⟨_, rfl⟩
  have hF : Fr (fun _ => False) w W1 := by rw [← hW1]; exact ((Fr.refl _ _).alloc _).alloc _
  have c1 : W1.cell? ⟨w.heap.size + 1, 0, none⟩ = some (.bool false) := by rw [← hW1]; simp
  have s1 : St W1 (w.heap.size + 1) 4 #[.bool false] := by
    rw [← hW1]
    have := St.new (w.alloc (.cells #[.pointer (some ⟨mp, 0, none⟩)] 29)) 4 #[.bool false]
    simpa using this
  have f1 := s1.frozen 0
  have l1 : w.heap.size + 1 < W1.heap.size := by rw [← hW1]; simp
  rw [hW1]
  clear hW1
  gi_loopw [16] (fun t16 wr => t16 = .int .i64 0 ∧ W1 = wr) (fun _ _ => 0)
  case atStart => exact ⟨rfl, rfl⟩
  case round =>
    obtain ⟨rfl, rfl⟩ := hrel
    gi_wp2
    have hc : (W1.setCell ⟨w.heap.size + 1, 0, none⟩ (.bool true)).cell? ⟨w.heap.size + 1, 0, none⟩ = some (.bool true) := World.cell?_setCell_same' _ _ _ (by rw [c1]; rfl)
    refine ⟨.bool true, ?_, rfl, (hF.setCell _ (fun h => by simp only at h; omega))⟩
    simp [results, hc, go_sem]
theorem mopen_new (w : World) (p : Nat) (d : Dk) (Sd : Nat → Prop) (key : Int) (hd : IsDisk w p d Sd) (hf : d.fs = []) (hk : U64 key) (hk0 : key ≠ 0) :
    Calls Tryz.prog 10 #[.pointer (some ⟨p, 0, none⟩), .int .u64 key] w fun en w' => ∃ mp jp Sm Sj, en = .returned (.tuple #[.pointer (some ⟨mp, 0, none⟩), .int .i64 0]) ∧
      Sys w' mp p jp (⟨#[109, 101, 109, 111, 45]⟩ ++ hexS key) ⟨[], [], 0, false⟩ ⟨[], 0, false⟩ d Sm Sj Sd ∧ (∀ k, Sm k → w.heap.size ≤ k) ∧ (∀ k, Sj k → w.heap.size ≤ k) ∧ Fr (fun _ => False) w w' := by
  have hk0b : (key == 0) = false := by simp [hk0]
  have hhex := hex_any w key hk
  have HX := Lib.hid hhex
  have HD := Lib.hid hd
  have HK := Lib.hid hk
  have hmm := @run_makeMap Tryz.prog
  clear hhex hd hk
  refine (callsIn_wide (n := 9)).1 ?_
  refine callsIn_of_wp_marks Tryz.func10 rfl trivial ?_ rfl
  simp only [Tryz.ntmps10, List.size_toArray, List.length_cons, List.length_nil, Nat.reduceAdd, Nat.reduceSub, Array.replicate_succ, Array.replicate_zero, List.push_toArray, List.append_toArray, List.nil_append, List.cons_append]
  gi_wp2_with fail
  refine ⟨trivial, callsIn_wide.2 (HX.out.mono ?_)⟩
  rintro e w1 ⟨rfl, hb1⟩
  have HF1 : Hid (Fr (fun _ => False) w w1) := Lib.hid (Fr.same' hb1)
  clear hb1
  have hxs : (hexS key).size = 16 := by rw [← strN_length, hexS, strN_of_nums (hexN_byts key), hexN_len]
  obtain ⟨hx, hhx⟩ : ∃ h, hexS key = h := ⟨_, rfl⟩
  have HHX := Lib.hid hhx
  rw [hhx] at hxs ⊢
  have hsum : 5 + hx.size ≤ 9223372036854775807 := by omega
  gi_wp2_with fail
  obtain ⟨file, hfile⟩ : ∃ file, (⟨#[109, 101, 109, 111, 45]⟩ : ByteArray) ++ hx = file := ⟨_, rfl⟩
  rw [hfile]
  have hfs : file.size = 21 := by rw [← hfile, ByteArray.size_append, hxs]; rfl
  obtain ⟨mp, hmp⟩ : ∃ mp, w1.heap.size + 1 = mp := ⟨_, rfl⟩
  obtain ⟨W3, hW3⟩ : ∃ W3, ((w1.alloc (.map #[] 0)).alloc (.cells #[.pointer (some ⟨p, 0, none⟩), .pointer none, .string file, .map (some w1.heap.size), .slice none 0 0, .int .i64 0, .bool false] 92)).alloc (.cells #[.pointer (some ⟨mp, 0, none⟩)] 29) = W3 := ⟨_, rfl⟩
  have F13 : Fr (fun _ => False) w1 W3 := by rw [← hW3]; exact (((Fr.refl _ w1).alloc _).alloc _).alloc _
  have hF3 : Fr (fun _ => False) w W3 := HF1.out.trans' F13
  have st3 : St W3 mp 92 #[.pointer (some ⟨p, 0, none⟩), .pointer none, .string file, .map (some w1.heap.size), .slice none 0 0, .int .i64 0, .bool false] := by
    rw [← hW3]
    have := St.new (w1.alloc (.map #[] 0)) 92 #[.pointer (some ⟨p, 0, none⟩), .pointer none, .string file, .map (some w1.heap.size), .slice none 0 0, .int .i64 0, .bool false]
    rw [World.size_alloc, hmp] at this
    exact this.fr (S := fun _ => False) ((Fr.refl _ _).alloc _) (fun h => h)
  have mp3 : W3.ownsMap Tryz.prog 35 HR w1.heap.size 0 (.map []) := by
    rw [← hW3]
    exact ((World.ownsMap_made w1 Tryz.prog 35 HR).alloc _).alloc _
  have hsz3 : W3.heap.size = mp + 2 := by
    rw [← hW3]
    simp only [World.size_alloc]
    omega
  have bx3 : W3.cell? ⟨mp + 1, 0, none⟩ = some (.pointer (some ⟨mp, 0, none⟩)) := by
    rw [← hW3, ← hmp]
    exact World.cell?_alloc_at _ _ _ _ (by simp only [World.size_alloc])
  have hjo := jopen_absent W3 p d Sd file (HD.out.fr hF3 (fun _ _ h => h)) (by rw [hf]; rfl) (by rw [hfs]; decide)
  have HJO := Lib.hid hjo
  have HF3 := Lib.hid hF3
  have HST3 := Lib.hid st3
  have HMP3 := Lib.hid mp3
  have c2 : W3.cell? ⟨mp, 2, none⟩ = some (.string file) := st3.cell 2 rfl
  have HFL := Lib.hid hfile
  clear hjo hF3 F13 st3 mp3 hfile hhx hxs hsum HX
  rw [hmp, hW3]
  clear hW3
  refine ⟨trivial, callsIn_wide.2 (HJO.out.mono ?_)⟩
  rintro e w4 ⟨q, Sj, rfl, hj4, hs4, hb4⟩
  have hF4 : Fr (fun _ => False) W3 w4 := Fr.same' hb4
  have st4 := HST3.out.fr hF4 (fun h => h)
  have k1 : w4.cell? ⟨mp, 1, none⟩ = some (.pointer none) := st4.cell 1 rfl
  have g1 := st4.frozen 1
  have l4 := st4.lt
  have b4 := hF4.cell bx3 (fun h => h)
  have lb4 : mp + 1 < w4.heap.size := by have := hF4.size; omega
  have HF4 := Lib.hid hF4
  have HJ4 := Lib.hid hj4
  have HSJ4 := Lib.hid hs4
  have HST4 := Lib.hid st4
  clear hF4 hj4 hs4 hb4 st4
  obtain ⟨W5, hW5⟩ : ∃ W5, ((w4.setCell ⟨mp, 1, none⟩ (.pointer (some ⟨q, 0, none⟩))).alloc (.cells #[.slice none 0 0] 23)).alloc (.cells #[.bool true] 4) = W5 := ⟨_, rfl⟩
  have hF45 : Fr (fun k => k = mp) w4 W5 := by rw [← hW5]; exact (((Fr.refl _ _).set _ _).alloc _).alloc _
  have hsz5 : Hid (W5.heap.size = w4.heap.size + 2) := Lib.hid (by rw [← hW5]; simp)
  have st5 : St W5 mp 92 #[.pointer (some ⟨p, 0, none⟩), .pointer (some ⟨q, 0, none⟩), .string file, .map (some w1.heap.size), .slice none 0 0, .int .i64 0, .bool false] := by
    rw [← hW5]
    have := HST4.out.set 1 (.pointer (some ⟨q, 0, none⟩))
    have h2 : St (w4.setCell ⟨mp, 1, none⟩ (.pointer (some ⟨q, 0, none⟩))) mp 92 #[.pointer (some ⟨p, 0, none⟩), .pointer (some ⟨q, 0, none⟩), .string file, .map (some w1.heap.size), .slice none 0 0, .int .i64 0, .bool false] := by simpa using this
    exact h2.fr (S := fun _ => False) (((Fr.refl _ _).alloc _).alloc _) (fun h => h)
  have x0 : W5.cell? ⟨w4.heap.size, 0, none⟩ = some (.slice none 0 0) := by
    rw [← hW5]
    exact ((Fr.refl (fun _ => False) _).alloc _).cell (World.cell?_alloc_at _ _ _ _ (by simp [World.setCell])) (fun h => h)
  have x1 : W5.cell? ⟨w4.heap.size + 1, 0, none⟩ = some (.bool true) := by
    rw [← hW5]
    exact World.cell?_alloc_at _ _ _ _ (by simp [World.setCell])
  have b5 : W5.cell? ⟨mp + 1, 0, none⟩ = some (.pointer (some ⟨mp, 0, none⟩)) := hF45.cell b4 (by simp)
  have j5 : IsJn W5 q p file ⟨[], 0, false⟩ Sj := HJ4.out.fr hF45 (fun k hk e => by have := HSJ4.out k hk; omega)
  have hje := jeach_any W5 q
  have HJE := Lib.hid hje
  have HF45 := Lib.hid hF45
  have HST5 := Lib.hid st5
  have HJ5 := Lib.hid j5
  clear hje hF45 st5 j5
  gi_wp2_with fail

  clear k1 g1 b4
  clear hW5
  refine ⟨trivial, callsIn_wide.2 (HJE.out.mono ?_)⟩
  rintro e w6 ⟨rfl, hw6⟩
  have hF56 : Fr (fun _ => False) W5 w6 := by rw [← hw6]; exact (Fr.refl _ _).alloc _
  have b6 : w6.cell? ⟨W5.heap.size, 0, none⟩ = some (.pointer (some ⟨q, 0, none⟩)) := by rw [← hw6]; simp
  have j6 : IsJn w6 q p file ⟨[], 0, false⟩ Sj := HJ5.out.fr hF56 (fun _ _ h => h)
  have HF56 := Lib.hid hF56
  have HJ6 := Lib.hid j6
  have hsz6 : Hid (w6.heap.size = W5.heap.size + 1) := Lib.hid (by rw [← hw6]; simp)
  clear hw6 hF56 j6
  gi_wp2_with fail
  refine wpIn_rangeFunc_ownH (F := Fence.wide) rfl (by omega) (gf := 89) (lb := #[.pointer (some ⟨W5.heap.size, 0, none⟩)]) rfl trivial (fun _ _ => rfl)
    (jeach_zero (9 - 1) w6 W5.heap.size q p file ⟨[], 0, false⟩ Sj (fun _ => #[.int .i64 0, .slice none 0 0]) (fun _ _ => True) (fun _ => True) 0 b6 HJ6.out rfl) (fun _ _ => trivial) (fun _ _ _ _ _ _ _ _ => trivial) (Below.refl _ _) (fun _ => rfl)
    (fun pre W => Fr (fun _ => False) w6 W) (fun _ _ _ => False)
    (fun s A B row hs hg hr => hs.grown hg (fun k e hk => by have := (hr k e).1; omega)) (fun _ _ _ _ _ hs _ _ => hs) (Fr.refl _ _) (fun _ _ _ => True) (fun _ _ _ _ _ _ _ _ _ => trivial) ?assign ?body ?done ?stop
  case assign =>
    intro l pre x W K hi hK
    gi_wp2
    exact hK _ _ (KeepsFrom.refl _ _) trivial hi trivial
  case body =>
    intro l pre x a' W _ _ _ _ h
    exact absurd h (Nat.not_lt_zero _)
  case stop =>
    rintro D c pre W _ _ h _
    exact h.elim
  case done =>
    rintro D xs W hD rfl hI hK
    have hF4W : Fr (fun k => k = mp) w4 W := (HF45.out.trans (HF56.out.trans' hI) (fun _ _ h => h.elim))
    have hF3W : Fr (fun k => k = mp) W3 W := (HF4.out.mono (fun _ _ h => h.elim)).trans' hF4W
    have hw3 : w.heap.size ≤ W3.heap.size := HF3.out.size
    have hw1 : w.heap.size ≤ w1.heap.size := HF1.out.size
    have hFwW : Fr (fun _ => False) w W := HF3.out.trans hF3W (fun i hi e => by omega)
    have c9 := (HF56.out.trans' hI).cell x0 (fun h => h)
    have c10 := (HF56.out.trans' hI).cell x1 (fun h => h)
    have cb := (HF56.out.trans' hI).cell b5 (fun h => h)
    have hrd := mread_nil W mp
    have HRD := Lib.hid hrd
    have HFW := Lib.hid hFwW
    have HF3W := Lib.hid hF3W
    have HK6 := Lib.hid hK
    have HI := Lib.hid hI
    clear hF4W hF3W hFwW hrd hI hK x0 x1 b5
    gi_wp2_with fail
    refine ⟨trivial, callsIn_wide.2 (HRD.out.mono ?_)⟩
    rintro e w7 ⟨rfl, hf7⟩
    have c97 := hf7.cell c9 (fun h => h)
    have cb7 := hf7.cell cb (fun h => h)
    have hnm := names_any w7 p d Sd (HD.out.fr (HFW.out.trans' hf7) (fun _ _ h => h)) (by rw [hf]; simp)
    have HNM := Lib.hid hnm
    have HF7 := Lib.hid hf7
    clear hf7 hnm c9 c10 cb
    gi_wp2_with fail
    refine ⟨trivial, callsIn_wide.2 (HNM.out.mono ?_)⟩
    rintro e w8 ⟨v8, L, rfl, hperm, _, hrow, hb8⟩
    have hL : L = [] := by
      rw [hf] at hperm
      exact List.Perm.eq_nil hperm
    subst hL
    obtain ⟨A8, c8, rfl, _, _⟩ := (own_sl hrow (by simp)).shape
    simp only [List.length_nil]
    have hF8 : Fr (fun _ => False) w7 w8 := Fr.same' hb8
    have cb8 := hF8.cell cb7 (fun h => h)
    have HF8 := Lib.hid hF8
    have hrm := remove_nil w8 mp
    have HRM := Lib.hid hrm
    clear hF8 hrm hrow hb8 c97 cb7
    gi_wp2
    gi_loopw [68, 13] (fun t68 t13 wr => t68 = .int .i64 0 ∧ t13 = .slice none 0 0 ∧ w8 = wr) (fun _ _ _ => 0)
    case atStart => exact ⟨rfl, rfl, rfl⟩
    case round =>
      obtain ⟨rfl, rfl, rfl⟩ := hrel
      gi_wp2_with fail
      refine ⟨trivial, callsIn_wide.2 (HRM.out.mono ?_)⟩
      rintro e w9 ⟨rfl, hw9⟩
      subst hw9
      gi_wp2
      have hFW8 : Fr (fun _ => False) W w8 := HF7.out.trans' HF8.out
      have hK8 : w8.heap[D]? = some (.deferred (some [])) := hFW8.heap HK6.out (fun h => h)
      have fD : Fr (fun k => some k = some D) w8 (w8.putObj D (.deferred none)) := Fr.of_grown (grownBy_putObj' w8 D _)
      have hDw : w6.heap.size ≤ D := hD
      have s34 : W3.heap.size ≤ w4.heap.size := HF4.out.size
      have s45 := HF45.out.size
      have s56 := HF56.out.size
      have s6W : w6.heap.size ≤ w8.heap.size := by
        have := (Array.getElem?_eq_some_iff.1 hK8).1
        omega
      have hw3 : w.heap.size ≤ W3.heap.size := HF3.out.size
      have hw1 : w.heap.size ≤ w1.heap.size := HF1.out.size
      have f3 : Fr (fun k => k = mp ∨ k = D) W3 (w8.putObj D (.deferred none)) := ((HF3W.out.mono (fun _ _ h => .inl h)).trans hFW8 (fun _ _ h => h.elim)).trans fD (fun i _ h => .inr (Option.some.inj h))
      have f5 : Fr (fun k => k = D) W5 (w8.putObj D (.deferred none)) := ((HF56.out.trans' (HI.out.trans' hFW8)).mono (fun _ _ h => h.elim)).trans fD (fun i _ h => Option.some.inj h)
      have fw : Fr (fun k => k = D) w (w8.putObj D (.deferred none)) := ((HFW.out.trans' hFW8).mono (fun _ _ h => h.elim)).trans fD (fun i _ h => Option.some.inj h)
      have hjb : ∀ k, Sj k → k < W5.heap.size := by
        obtain ⟨_, _, _, _, _, _, _, _, _, h⟩ := HJ5.out
        exact h
      have hdb : ∀ k, Sd k → k < w.heap.size := by
        obtain ⟨_, _, _, _, _, _, _, _, h⟩ := HD.out
        exact h
      have hfz := f3.size
      refine ⟨by simp, .inl ⟨_, _, rfl, run_takeDeferred hK8, ?_⟩⟩
      have hfin : (⟨#[109, 101, 109, 111, 45]⟩ : ByteArray) ++ hexS key = file := by rw [HHX.out, HFL.out]
      rw [hfin]
      refine ⟨_, results_tmp2 rfl _ _ _, mp, q, fun k => k = mp ∨ k = w1.heap.size, Sj, rfl, ⟨⟨w1.heap.size, .map [], .slice none 0 0, fun _ => False, ?_, ?_, ⟨rfl, by simp [keysP], fun k _ => rfl⟩, fun p hp => (by cases hp), ⟨[], rfl, World.ownsRow_nil _ _ _ _, fun g hg => (by cases hg), fun i n b v h => (by cases h)⟩, fun k hk => hk.elim, .inl rfl, .inr rfl, ?_⟩, ?_, ?_, ?_, ?_, ?_⟩, ?_, ?_, ?_⟩
      · exact HST5.out.fr f5 (by omega)
      · exact ownsMap_fr HMP3.out f3 (by omega)
      · intro k hk
        omega
      · exact HJ5.out.fr f5 (fun k hk e => by have := hjb k hk; omega)
      · exact HD.out.fr fw (fun k hk e => by have := hdb k hk; omega)
      · intro k hk hj
        have := HSJ4.out k hj
        omega
      · intro k hk hj
        have := hdb k hj
        omega
      · intro k hk hj
        have := hdb k hj
        have := HSJ4.out k hk
        omega
      · intro k hk
        omega
      · intro k hk
        have := HSJ4.out k hk
        omega
      · exact fw.trans (Fr.refl (fun _ => False) _) (fun _ _ h => h.elim) |>.mono (fun i hi e => by omega)
end Go.Proofs.YtbbplhpkhholeaaGreatDoor
