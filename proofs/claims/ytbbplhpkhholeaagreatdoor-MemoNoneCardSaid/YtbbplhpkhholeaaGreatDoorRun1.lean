/- Package run: bytes. -/
import Derived.Test.YtbbplhpkhholeaaGreatDoorSort2
import Derived.Deep.RegionHeld3
set_option linter.unusedVariables false
set_option linter.unusedSimpArgs false
set_option maxRecDepth 20000
namespace Go.Proofs.YtbbplhpkhholeaaGreatDoor
open Go.RowKit Go.Maps Go.Shelf

def pairB (p : Pr) : List Int := wordB p.1 ++ wordB p.2
def pairsB (ps : List Pr) : List Int := ps.flatMap pairB
def headB (ps : List Pr) : List Int := uintB ps.length ++ pairsB ps
/-- The bytes of a run. -/
def runB (ps : List Pr) : List Int := headB ps ++ wordB (hashB (headB ps))
def OkP (ps : List Pr) : Prop := ∀ p ∈ ps, U64 p.1 ∧ U64 p.2
theorem pairsB_len (ps : List Pr) : (pairsB ps).length = 16 * ps.length := by
  induction ps with
  | nil => rfl
  | cons p ps ih =>
    simp only [pairsB, List.flatMap_cons, List.length_append, List.length_cons] at *
    rw [ih]
    simp only [pairB, List.length_append, wordB_len]
    omega
theorem pairsB_snoc (ps : List Pr) (p : Pr) : pairsB (ps ++ [p]) = pairsB ps ++ (wordB p.1 ++ wordB p.2) := by simp [pairsB, pairB]
theorem Fr.same' {a b : World} (h : Below a.heap.size a b) : Fr (fun _ => False) a b := Fr.of_same h
theorem own_cells {w : World} {B n : Nat} {e : TypeId} {v : Value} {xs : List Value} (h : w.ownsRow B e 1 v n xs) (hn : 0 < n) :
    ∃ g cap, v = .slice (some ⟨g, 0, none⟩) n cap ∧ B ≤ g ∧ ∀ j u, xs[j]? = some u → w.cell? ((⟨g, 0, none⟩ : Addr).add j) = some u := by
  rcases h.2 with ⟨_, h0⟩ | ⟨g, cap, cur, rfl, hB, hb, h1, h2, h3, h4⟩
  · omega
  · refine ⟨g, cap, rfl, hB, fun j u hu => World.news_of_block hb j u ?_⟩
    rw [← h4] at hu
    by_cases hj : j < n * 1
    · rw [List.getElem?_take_of_lt hj] at hu
      exact hu
    · rw [List.getElem?_take_eq_none (by omega)] at hu
      cases hu
theorem grow_any (w : World) (B : Nat) (v : Value) (xs : List Int) (n : Nat) (h : w.ownsRow B 5 1 v xs.length (numsV .u8 xs)) (hB : B ≤ w.heap.size) (hl : xs.length + n ≤ 1099511627776) :
    Calls Tryz.prog 79 #[v, .int .i64 n] w fun e w' => ∃ v', e = .returned v' ∧ w'.ownsRow B 5 1 v' xs.length (numsV .u8 xs) ∧ Below w.heap.size w w' ∧ (v'.ownBlock = v.ownBlock ∨ v'.ownBlock = some w.heap.size) := by
  obtain ⟨i0, hi0, hzz⟩ := Option.map_eq_some_iff.1 infoU8
  simp only [Prod.mk.injEq] at hzz
  obtain ⟨hz0, hz1, hz2⟩ := hzz
  have hown := h
  have key : ∃ (A : Option Addr) (c : Nat) (cs : List Value), v = .slice A xs.length c ∧ xs.length ≤ c ∧ c ≤ maxLen ∧ cs.length = c ∧ cs.take xs.length = numsV .u8 xs ∧ (A = none → c = 0) ∧ (∀ a, A = some a → ∀ j u, cs[j]? = some u → w.cell? (a.add j) = some u) := by
    rcases h.2 with ⟨rfl, h0⟩ | ⟨g, cap, cur, rfl, hbase, hb, h1, h2, h3, h4⟩
    · refine ⟨none, 0, [], by rw [h0], by omega, Nat.zero_le _, rfl, ?_, fun _ => rfl, fun a e => by cases e⟩
      have : xs = [] := List.eq_nil_of_length_eq_zero h0
      subst this; rfl
    · refine ⟨some ⟨g, 0, none⟩, cap, cur.toList, rfl, h1, h2, by simpa using h3, by simpa using h4, fun e => (by cases e), fun a e j u hu => ?_⟩
      cases e
      exact World.news_of_block hb j u hu
  obtain ⟨A, c, cs, rfl, l1, l2, l3, l4, l5, l6⟩ := key
  have hcm : c ≤ 9223372036854775807 := l2
  by_cases hroom : xs.length + n ≤ c
  · refine (Any8.slices_Grow_room Tryz.growB A xs.length c n w l1 hcm (by omega) hroom).mono ?_
    rintro e w' ⟨rfl, rfl⟩
    exact ⟨_, rfl, h, Below.refl _ _, .inl rfl⟩
  · refine (Any8.slices_Grow_grow Tryz.growB i0 (.int .u8 0) hi0 hz0 (by omega) A xs.length c n cs w l1 (by omega) (by rw [hz2]; omega) (by omega) (by rw [hz1]; omega) l5 l6).mono ?_
    rintro e w' ⟨rfl, rfl⟩
    rw [show Tryz.growB_ren.t 25 = 5 from rfl]
    have hg1 := grownCap_ge w (xs.length + n) c 5
    have hg2 := grownCap_le_maxLen w (xs.length + n) c 5 (by simp only [maxLen]; omega)
    refine ⟨_, rfl, ⟨by simp [numsV], .inr ⟨w.heap.size, _, _, rfl, hB, heap_alloc_new _ _, ?_, hg2, ?_, ?_⟩⟩, ((below_drewN (Below.refl w.heap.size w) 1).alloc (Nat.le_refl _) _), .inr rfl⟩
    · exact Nat.le_trans (by omega) hg1
    · have hz : (Value.int .u8 0).cells.size = 1 := rfl
      simp only [Array.size_append, List.size_toArray, size_zeroCells, l3, hz, Nat.mul_one]
      omega
    · have e1 : xs.length * 1 = xs.length := by omega
      rw [e1, Array.toList_append, Array.toList_append, List.append_assoc, List.take_append_of_le_length (by simp; omega)]
      exact l4

set_option maxHeartbeats 1600000 in
/-- run.bytes. -/
theorem bytes_any (w : World) (v : Value) (ps : List Pr) (h : SlP w v ps) (hp : OkP ps) (hl : ps.length ≤ 1048576) :
    Calls Tryz.prog 39 #[v] w (RetB w (runB ps)) := by
  obtain ⟨A, c, rfl, hlc, hcc, hat⟩ := h.form
  have hpu := putUint_any w (.slice none 0 0) [] ps.length (SlN.nil _ _) (by simp) ⟨by omega, by omega⟩
  rw [List.nil_append] at hpu
  have hul : (uintB ps.length).length ≤ 10 := (uintB_len (x := ps.length) ⟨by omega, by omega⟩).2
  obtain ⟨i0, hi0, hzz⟩ := Option.map_eq_some_iff.1 infoU8
  simp only [Prod.mk.injEq] at hzz
  obtain ⟨hz0, hz1, hz2⟩ := hzz
  have HPU := Lib.hid hpu
  have HA := Lib.hid hat
  have HS := Lib.hid h
  have HP := Lib.hid hp
  clear hpu hat h hp
  go_enter Tryz.func39, Tryz.ntmps39
  go_wp2_with fail
  refine HPU.out.mono ?_
  rintro e w1 ⟨v1, rfl, ho1, hb1⟩
  have HO1 := Lib.hid ho1
  have HB1 := Lib.hid hb1
  clear ho1 hb1
  go_wp2_with fail
  refine (grow_any w1 w.heap.size v1 _ (16 * ps.length + 8) HO1.out HB1.out.size (by omega)).mono ?_
  rintro e w2 ⟨v2, rfl, ho2, hb2, _⟩
  have HO2 := Lib.hid ho2
  have HB2 : Hid (Below w.heap.size w w2) := Lib.hid (HB1.out.trans (hb2.mono HB1.out.size))
  clear ho2 hb2
  go_wp2
  go_loopw [19, 4] (fun t19 t4 wr => ∃ (k : Nat) (pre : List Int), k ≤ ps.length ∧ t19 = .int .i64 k ∧ Hid (pre = uintB ps.length ++ pairsB (ps.take k)) ∧ pre.length ≤ 10 + 16 * k ∧ Hid (wr.ownsRow w.heap.size 5 1 t4 pre.length (numsV .u8 pre)) ∧ Hid (Below w.heap.size w wr)) (fun i _ _ => ps.length - (intOf i).toNat)
  case atStart => exact ⟨0, _, Nat.zero_le _, rfl, Lib.hid (by simp [pairsB]), by omega, HO2, HB2⟩
  case round =>
    obtain ⟨k, pre, hk, rfl, hpre, hpl, hO, hB⟩ := hrel
    by_cases hlt : k < ps.length
    · obtain ⟨x, hx⟩ : ∃ x, ps[k]? = some x := ⟨_, List.getElem?_eq_getElem hlt⟩
      obtain ⟨b, off, rfl, e1, e2⟩ := HA.out k x hx
      have hux := HP.out x (List.mem_of_getElem? hx)
      have HU1 := Lib.hid hux.1
      have HU2 := Lib.hid hux.2
      clear hux
      have e1' := (Fr.of_below hB.out).cell e1 (by have := World.block_lt_of_cell? w _ e1; simp only at this ⊢; omega)
      have e2' := (Fr.of_below hB.out).cell e2 (by have := World.block_lt_of_cell? w _ e2; simp only at this ⊢; omega)
      clear e1 e2
      obtain ⟨W1, hW1⟩ : ∃ W1, wr.alloc (.cells #[.int .u64 x.1, .int .u64 x.2] 68) = W1 := ⟨_, rfl⟩
      have hsz1 : W1.heap.size = wr.heap.size + 1 := by rw [← hW1]; simp
      have hb1' : Below wr.heap.size wr W1 := by rw [← hW1]; exact (Below.refl _ _).alloc (Nat.le_refl _) _
      have q0 : W1.cell? ⟨wr.heap.size, 0, none⟩ = some (.int .u64 x.1) := by rw [← hW1]; simp
      have q1 : W1.cell? ⟨wr.heap.size, 1, none⟩ = some (.int .u64 x.2) := by rw [← hW1]; simp
      have hOW : Hid (W1.ownsRow w.heap.size 5 1 u4 pre.length (numsV .u8 pre)) := Lib.hid (by rw [← hW1]; exact hO.out.alloc _)
      have hBW : Hid (Below w.heap.size w W1) := Lib.hid (hB.out.trans (hb1'.mono hB.out.size))
      have hne : u4.ownBlock ≠ some wr.heap.size := fun e => by have := (hO.out.lt _ e).2; omega
      have e16 : (wordB x.1 ++ wordB x.2).length = 16 := by simp [wordB_len]
      have hnl : (numsV .u8 (wordB x.1 ++ wordB x.2)).length = 16 * 1 := by rw [numsV_length, e16]
      have hmx1 : pre.length + 16 ≤ maxLen := by simp only [maxLen]; omega
      have hmx2 : (pre.length + 16) * 1 ≤ 140737488355328 := by omega
      go_wp2_with fail
      clear hW1
      go_region_held3 (fun w' => w'.cell? ⟨wr.heap.size, 0, none⟩ = some (.int .u64 x.1) ∧ w'.cell? ⟨wr.heap.size, 1, none⟩ = some (.int .u64 x.2)) (go_keep)
        (first
          | (refine step_append_lies _ (by rfl) _ _ _ (by rfl) w.heap.size 5 i0 (.int .u8 0) 1 1 Tryz.underlying25 hi0 hz0 hz1 hz2 (by rfl) (by decide) u4 pre.length (numsV .u8 pre) (by rfl) HOP ⟨g4, 0, none⟩ 16 c4 (numsV .u8 (wordB x.1 ++ wordB x.2)) (by rfl) hnl hc4 (numsV_one _ _) (by decide) hmx1 hmx2 hbs _ rfl ?_; intro gg cap w5 hown5 hgrow5 hat5 hlt5; have m0 := (Fr.of_grown hgrow5).cell k0 (fun e => hne e.symm); have m1 := (Fr.of_grown hgrow5).cell k1 (fun e => hne e.symm); have HO5 := Lib.hid hown5; have HG5 := Lib.hid hgrow5; clear hown5 hgrow5)
          | (go_at_call 80; refine (putWord_any w3 v3 (wordB x.1) x.2 (SlN.of_own HO3.out) (by simp [wordB_len]) HU2.out).mono ?_; rintro e w4 ⟨v4, rfl, ho4, hb4⟩; have k0 := (Fr.same' hb4).cell j0 (fun h => h); have k1 := (Fr.same' hb4).cell j1 (fun h => h); have HB4 := Lib.hid hb4; rw [e16] at ho4; obtain ⟨g4, c4, rfl, hg4, hc4⟩ := own_cells ho4 (by decide); have HO4 := Lib.hid ho4; have HOP : w4.ownsRow w.heap.size 5 1 u4 pre.length (numsV .u8 pre) := own_fr (own_fr (w := W1.drew) hOW.out (Fr.same' HB3.out) (fun _ _ h => h)) (Fr.same' HB4.out) (fun _ _ h => h); have hbs : w.heap.size ≤ w4.heap.size := Nat.le_trans (Nat.le_trans hBW.out.size HB3.out.size) HB4.out.size; clear ho4 hb4)
          | (go_at_call 80; refine (putWord_any _ (.slice none 0 0) [] x.1 (SlN.nil _ _) (by simp) HU1.out).mono ?_; rintro e w3 ⟨v3, rfl, ho3, hb3⟩; have j0 := (Fr.same' hb3).cell q0 (fun h => h); have j1 := (Fr.same' hb3).cell q1 (fun h => h); have HO3 := Lib.hid ho3; have HB3 := Lib.hid hb3; clear ho3 hb3))
      go_wp2
      go_roundw
      case rel =>
        refine ⟨k + 1, pre ++ (wordB x.1 ++ wordB x.2), by omega, by go_num, Lib.hid ?_, by rw [List.length_append, e16]; omega, Lib.hid ?_, Lib.hid ?_⟩
        · rw [hpre.out, List.take_add_one, hx]
          simp only [Option.toList_some]
          rw [pairsB_snoc, List.append_assoc]
        · have := HO5.out
          rw [← numsV_append] at this
          rw [List.length_append, e16]
          exact this
        · exact ((hBW.out.trans (below_drewN (n := 1) (Below.refl _ _) )).trans (HB3.out.mono (by have := hBW.out.size; exact this))).trans (HB4.out.mono (Nat.le_trans hBW.out.size HB3.out.size)) |>.trans ((Fr.of_grown HG5.out).below hbs (fun i e => own_new HOP e.symm))
      case measure => simp [intOf]; omega
    · have hkl : ps.take k = ps := List.take_of_length_le (by omega)
      rw [hkl] at hpre
      have hpl2 : pre.length ≤ 10 + 16 * ps.length := by omega
      have hby : Byts pre := by
        rw [hpre.out]
        refine (uintB_byts _).append ?_
        intro y hy
        obtain ⟨q, _, hq⟩ := List.mem_flatMap.1 hy
        exact ((wordB_byts q.1).append (wordB_byts q.2)) y hq
      have hpre' : pre = headB ps := hpre.out
      have HPR := Lib.hid hpre'
      have hhash := hash_any wr u4 pre (SlN.of_own hO.out) hby (by omega)
      have hword := putWord_any wr u4 pre (hashB pre) (SlN.of_own hO.out) (by omega) (hashB_range pre)
      have HH := Lib.hid hhash
      have HW := Lib.hid hword
      clear hhash hword hpre' hby
      go_wp2_with fail
      refine HH.out.mono ?_
      rintro e w3 ⟨rfl, rfl⟩
      go_wp2_with fail
      refine HW.out.mono ?_
      rintro e w3 ⟨v3, rfl, ho3, hb3⟩
      have HO3 := Lib.hid ho3
      have HB3 := Lib.hid hb3
      clear ho3 hb3
      go_wp2
      go_ret
      have e : runB ps = pre ++ wordB (hashB pre) := by rw [HPR.out]; rfl
      exact ⟨v3, rfl, by rw [e]; exact own_base HO3.out hB.out.size, hB.out.trans (HB3.out.mono hB.out.size)⟩
end Go.Proofs.YtbbplhpkhholeaaGreatDoor
