/- The walks of package disk: raw writes, and what they do. -/
import Derived.Test.YtbbplhpkhholeaaGreatDoorDisk1
import Derived.StillTailTactics
import Derived.Deep.RegionHeld3
import Derived.Deep.AppendLies
set_option linter.unusedVariables false
set_option linter.unusedSimpArgs false
set_option maxRecDepth 20000
namespace Go.Proofs.YtbbplhpkhholeaaGreatDoor
open Go.RowKit Go.Maps

theorem ownsMap_lt {w : World} {P : Program} {k : TypeId} {b n : Nat} {D : DataW Value} (h : w.ownsMap P k HR b n D) : b < w.heap.size := by
  obtain ⟨es, clock, hb', r⟩ := h
  exact (Array.getElem?_eq_some_iff.1 hb').1
theorem ownsMap_neC {w : World} {P : Program} {k : TypeId} {b n : Nat} {D : DataW Value} {g : Nat} {v : Value} (h : w.ownsMap P k HR b n D) (hg : w.cell? ⟨g, 0, none⟩ = some v) : g ≠ b := by
  obtain ⟨es, clock, hb', r⟩ := h
  rintro rfl
  simp only [World.cell?, hb'] at hg
  cases hg
/-- raw, where the write isn't done. -/
theorem raw_no (w : World) (p : Nat) (mv : Value) (wr : Int) (f : Value) (h : St w p 106 #[mv, .int .i64 wr, .int .i64 0, .bool true]) :
    Calls Tryz.prog 51 #[.pointer (some ⟨p, 0, none⟩), f] w fun en w' => en = .returned (.int .i64 6) ∧ w = w' := by
  have c2 := h.cell 2 rfl
  have c3 := h.cell 3 rfl
  clear h
  go_enter Tryz.func51, Tryz.ntmps51
  go_wp2
  go_ret
  exact ⟨rfl, rfl⟩
/-- The disk's block where a raw write is done. -/
def rawW (w : World) (p : Nat) (d : Dk) : World := if d.cut then (w.setCell ⟨p, 2, none⟩ (.int .i64 (d.left - 1))).setCell ⟨p, 1, none⟩ (.int .i64 (d.writes + 1)) else w.setCell ⟨p, 1, none⟩ (.int .i64 (d.writes + 1))
theorem raw_yes (w : World) (p : Nat) (mv : Value) (d : Dk) (g : Nat) (caps : Array Value) (R : World → Prop) (h : St w p 106 #[mv, .int .i64 d.writes, .int .i64 d.left, .bool d.cut])
    (hw0 : 0 ≤ d.writes) (hw : d.writes ≤ 4611686018427387904) (hl0 : 0 ≤ d.left) (hl : d.left ≤ 4611686018427387904) (hc : d.cut = true → d.left ≠ 0)
    (hg : ∀ args w, (callFunc g args).run Tryz.prog w = .ok (.enter g args) w)
    (hdo : Calls Tryz.prog g caps (rawW w p d) fun en w' => en = .returned (.tuple #[]) ∧ R w') :
    Calls Tryz.prog 51 #[.pointer (some ⟨p, 0, none⟩), .func (.func g) #[] caps] w fun en w' => en = .returned (.int .i64 0) ∧ R w' := by
  have c1 := h.cell 1 rfl
  have c2 := h.cell 2 rfl
  have c3 := h.cell 3 rfl
  have f1 := h.frozen 1
  have f2 := h.frozen 2
  clear h
  have HD := Lib.hid hdo
  clear hdo
  obtain ⟨fs, wr, left, cut⟩ := d
  simp only at hw0 hw hl0 hl hc c1 c2 c3
  cases cut with
  | true =>
    have hl' := hc rfl
    have hlb : (left == 0) = false := by simpa using hl'
    clear hc hl'
    go_enter Tryz.func51, Tryz.ntmps51
    go_wp2_with fail
    refine HD.out.mono ?_
    rintro e w1 ⟨rfl, hR⟩
    have HR := Lib.hid hR
    clear hR
    go_wp2
    go_ret
    exact ⟨rfl, HR.out⟩
  | false =>
    clear hc
    go_enter Tryz.func51, Tryz.ntmps51
    go_wp2_with fail
    refine HD.out.mono ?_
    rintro e w1 ⟨rfl, hR⟩
    have HR := Lib.hid hR
    clear hR
    go_wp2
    go_ret
    exact ⟨rfl, HR.out⟩
/-- Which names may be. -/
def mayC (c : Int) : Bool := (decide (97 ≤ c) && decide (c ≤ 122)) || (decide (48 ≤ c) && decide (c ≤ 57)) || decide (c = 45) || decide (c = 46)
def mayN (s : ByteArray) : Bool := decide (1 ≤ s.size) && decide (s.size ≤ 32) && (strN s).all mayC

theorem remove1_any (w : World) (p mb a b : Nat) (s : ByteArray) (n : Nat) (D : DataW Value) (hs : s.size ≤ maxLen) (ha : w.cell? ⟨a, 0, none⟩ = some (.pointer (some ⟨p, 0, none⟩))) (hb : w.cell? ⟨b, 0, none⟩ = some (.string s))
    (hp : w.cell? ⟨p, 0, none⟩ = some (.map (some mb))) (hm : w.ownsMap Tryz.prog 9 HR mb n D) :
    Calls Tryz.prog 128 #[.pointer (some ⟨a, 0, none⟩), .pointer (some ⟨b, 0, none⟩)] w fun en w' => en = .returned (.tuple #[]) ∧ w'.ownsMap Tryz.prog 9 HR mb n (D.del (key s)) ∧ w.grownBy w' (some mb) := by
  have hdel : ∀ ty, ∃ w', (Builtin.delete_ #[104, 9] ty #[.map (some mb), .string s]).run Tryz.prog w.drew = .ok (.tuple #[]) w' ∧ w'.ownsMap Tryz.prog 9 HR mb n (D.del (key s)) ∧ w.grownBy w' (some mb) := by
    intro ty
    obtain ⟨w', h1, h2, h3⟩ := World.ownsMap.drop (w := w.drew) hm keyed_str Tryz.underlying104 (keyOf_str hs) ty
    have g := h3.grown
    exact ⟨w', h1, h2, ⟨g.os, g.tape, g.output, g.size, g.block⟩⟩
  obtain ⟨w', h1, h2, h3⟩ := hdel 0
  have H2 := Lib.hid h2
  have H3 := Lib.hid h3
  clear hdel hm h2 h3 hs
  go_enter Tryz.func128, Tryz.ntmps128
  go_still_tail 5, (by kernel_rfl)
  change wpList _ _ _ _ _ w.drew
  go_wp2
  go_end0
  exact ⟨rfl, H2.out, H3.out⟩

theorem append1_any (w : World) (p mb a b : Nat) (s : ByteArray) (n : Nat) (D : DataW Value) (hs : s.size ≤ maxLen) (hn : n < maxLen) (ha : w.cell? ⟨a, 0, none⟩ = some (.pointer (some ⟨p, 0, none⟩))) (hb : w.cell? ⟨b, 0, none⟩ = some (.string s))
    (hp : w.cell? ⟨p, 0, none⟩ = some (.map (some mb))) (hm : w.ownsMap Tryz.prog 9 HR mb n D) :
    Calls Tryz.prog 52 #[.pointer (some ⟨a, 0, none⟩), .pointer (some ⟨b, 0, none⟩)] w fun en w' => en = .returned (.tuple #[]) ∧ w'.ownsMap Tryz.prog 9 HR mb (n + 1) (D.put (key s) (.held (.slice none 0 0))) ∧ w.grownBy w' (some mb) := by
  obtain ⟨w', h1, h2, h3⟩ := World.ownsMap.update (w := w.drew) hm keyed_str Tryz.underlying104 hn (keyOf_str hs) (val := .slice none 0 0) (d := .held (.slice none 0 0)) (ps := []) rfl
  have H2 := Lib.hid h2
  have H3 : Hid (w.grownBy w' (some mb)) := Lib.hid ⟨h3.os, h3.tape, h3.output, h3.size, h3.block⟩
  clear hm h2 h3 hs hn
  go_enter Tryz.func52, Tryz.ntmps52
  go_still_tail 5, (by kernel_rfl)
  change wpList _ _ _ _ _ w.drew
  go_wp2
  go_end0
  exact ⟨rfl, H2.out, H3.out⟩

set_option maxHeartbeats 3200000 in
theorem append2_any (w : World) (p mb a b c : Nat) (s : ByteArray) (n : Nat) (D : DataW Value) (v : Value) (olds : List Int) (pb po pc : Nat) (news : List Int) (hs : s.size ≤ maxLen) (hn : n < maxLen) (ha : w.cell? ⟨a, 0, none⟩ = some (.pointer (some ⟨p, 0, none⟩))) (hb : w.cell? ⟨b, 0, none⟩ = some (.string s))
    (hc : w.cell? ⟨c, 0, none⟩ = some (.slice (some ⟨pb, po, none⟩) news.length pc))
    (hp : w.cell? ⟨p, 0, none⟩ = some (.map (some mb))) (hm : w.ownsMap Tryz.prog 9 HR mb n D) (hv : (look D (key s)).getD (.slice none 0 0) = v) (hown : w.ownsRow 0 5 1 v olds.length (numsV .u8 olds))
    (hnews : SlN w .u8 (.slice (some ⟨pb, po, none⟩) news.length pc) news) (h0 : 0 < news.length) (hlen : olds.length + news.length ≤ 4194304)
    (da : v.ownBlock ≠ some a) (db : v.ownBlock ≠ some b) (dc : v.ownBlock ≠ some c) (dp : v.ownBlock ≠ some p) (dm : v.ownBlock ≠ some mb) :
    Calls Tryz.prog 53 #[.pointer (some ⟨a, 0, none⟩), .pointer (some ⟨b, 0, none⟩), .pointer (some ⟨c, 0, none⟩)] w fun en w' => ∃ v', en = .returned (.tuple #[]) ∧ w'.ownsMap Tryz.prog 9 HR mb (n + 1) (D.put (key s) (.held v')) ∧
      w'.ownsRow 0 5 1 v' (olds ++ news).length (numsV .u8 (olds ++ news)) ∧ Fr (fun k => k = mb ∨ v.ownBlock = some k) w w' ∧ (v'.ownBlock = v.ownBlock ∨ ∃ g, v'.ownBlock = some g ∧ w.heap.size ≤ g) := by
  obtain ⟨i0, hi0, hzz⟩ := Option.map_eq_some_iff.1 infoU8
  simp only [Prod.mk.injEq] at hzz
  obtain ⟨hz0, hz1, hz2⟩ := hzz
  have lk := look_plain hm keyed_str Tryz.underlying104 (zeroB w) (keyOf_str hs)
  rw [hv] at lk
  have lk' : (Instr.lookup 104 (.map (some mb)) (.string s) false).run Tryz.prog w.drew = .ok v w.drew := by
    have := look_plain (w := w.drew) hm keyed_str Tryz.underlying104 (zeroB w.drew) (keyOf_str hs)
    rw [hv] at this
    exact this
  have hown' : w.drew.ownsRow 0 5 1 v olds.length (numsV .u8 olds) := hown
  have hnw : ∀ j u, (numsV .u8 news)[j]? = some u → w.drew.cell? ((⟨pb, po, none⟩ : Addr).add j) = some u := fun j u hu => by
    obtain ⟨A', c', e', _, _, _, _, _, h6⟩ := hnews
    cases e'
    rw [Addr.add_lit]
    exact (h6 _ rfl).2 j u hu
  have hnl : (numsV .u8 news).length = news.length * 1 := by simp [numsV]
  have hn1 := numsV_one .u8 news
  have b63 : olds.length + news.length ≤ maxLen := by simp only [maxLen]; omega
  have bby : (olds.length + news.length) * 1 ≤ 140737488355328 := by omega
  have hH : w.drew.heap.size = w.heap.size := rfl
  have la := World.block_lt_of_cell? w _ ha
  have lb := World.block_lt_of_cell? w _ hb
  have lc := World.block_lt_of_cell? w _ hc
  have lp := World.block_lt_of_cell? w _ hp
  have upd : ∀ (u : Value) (w1 : World), w.drew.grownBy w1 v.ownBlock → ∃ w2, (Instr.mapUpdate 104 (.map (some mb)) (.string s) u).run Tryz.prog w1 = .ok () w2 ∧ Hid (w2.ownsMap Tryz.prog 9 HR mb (n + 1) (D.put (key s) (.held u))) ∧ Hid (w1.grownBy w2 (some mb)) ∧
      (∀ k vv, k ≠ mb → w1.cell? ⟨k, 0, none⟩ = some vv → w2.cell? ⟨k, 0, none⟩ = some vv) := by
    intro u w1 hg
    have hm1 : w1.ownsMap Tryz.prog 9 HR mb n D := World.ownsMap.kept (w := w.drew) hm hg (fun e => dm e.symm)
    obtain ⟨w2, r1, r2, r3⟩ := hm1.update keyed_str Tryz.underlying104 hn (keyOf_str hs) (val := u) (d := .held u) (ps := []) rfl
    exact ⟨w2, r1, Lib.hid r2, Lib.hid r3, fun k vv hk hc => by
      have hlt := World.block_lt_of_cell? w1 _ hc
      rw [r3.cell_far ⟨k, 0, none⟩ hlt (fun e => hk (Option.some.inj e))]
      exact hc⟩
  have la' : a < w.drew.heap.size := la
  have lb' : b < w.drew.heap.size := lb
  have lc' : c < w.drew.heap.size := lc
  have lp' : p < w.drew.heap.size := lp
  have na : a ≠ mb := ownsMap_neC hm ha
  have nb : b ≠ mb := ownsMap_neC hm hb
  have nc : c ≠ mb := ownsMap_neC hm hc
  have np : p ≠ mb := ownsMap_neC hm hp
  have HM := Lib.hid hm
  have HV := Lib.hid hv
  clear hs hn hm hv lk
  go_enter Tryz.func53, Tryz.ntmps53
  go_wp2_with fail
  go_region_held3 (fun w' => w'.cell? ⟨a, 0, none⟩ = some (.pointer (some ⟨p, 0, none⟩)) ∧ w'.cell? ⟨b, 0, none⟩ = some (.string s) ∧ w'.cell? ⟨c, 0, none⟩ = some (.slice (some ⟨pb, po, none⟩) news.length pc) ∧ w'.cell? ⟨p, 0, none⟩ = some (.map (some mb)))
    (first
      | go_keep
      | (go_split_ands
         refine ⟨?_, ?_, ?_, ?_⟩
         · (rw [hgrow.cell_far _ (by simp; omega) (Ne.symm da)]; assumption)
         · (rw [hgrow.cell_far _ (by simp; omega) (Ne.symm db)]; assumption)
         · (rw [hgrow.cell_far _ (by simp; omega) (Ne.symm dc)]; assumption)
         · (rw [hgrow.cell_far _ (by simp; omega) (Ne.symm dp)]; assumption)))
    ((refine step_append_lies _ (by rfl) _ _ _ (by rfl) 0 5 i0 _ 1 1 Tryz.underlying25 hi0 hz0 hz1 hz2 (by rfl) (by decide) v olds.length (numsV .u8 olds) (by rfl) hown'
        ⟨pb, po, none⟩ news.length pc (numsV .u8 news) (by rfl) hnl hnw hn1 h0 b63 bby (Nat.zero_le _) w.heap.size hH ?_; intro gg cap w1 hown1 hgrow hat hlt; obtain ⟨w2, hup, hm2, hg2, hk2⟩ := upd (.slice (some ⟨gg, 0, none⟩) (olds.length + news.length) cap) w1 hgrow; have k1 := hk2 a _ na (by rw [hgrow.cell_far _ la' (Ne.symm da)]; exact ha); have k2 := hk2 b _ nb (by rw [hgrow.cell_far _ lb' (Ne.symm db)]; exact hb); have k3 := hk2 c _ nc (by rw [hgrow.cell_far _ lc' (Ne.symm dc)]; exact hc); have k4 := hk2 p _ np (by rw [hgrow.cell_far _ lp' (Ne.symm dp)]; exact hp); clear hk2))
  have dg : gg ≠ mb := by
    rintro rfl
    rcases hat with e | e
    · exact dm e
    · have := ownsMap_lt HM.out
      omega
  go_end0
  refine ⟨_, rfl, hm2.out, ?_, ?_, ?_⟩
  · have h := World.ownsRow.kept hown1 hg2.out (Or.inr fun e => dg (Option.some.inj e))
    rw [numsV_append, List.length_append]
    exact h
  · refine ((Fr.refl _ w).drew.grown (S := fun k => k = mb ∨ v.ownBlock = some k) hgrow (fun k e _ => Or.inr e)).grown hg2.out (fun k e _ => Or.inl (Option.some.inj e).symm)
  · rcases hat with e | e
    · exact Or.inl (by rw [e]; rfl)
    · exact Or.inr ⟨gg, rfl, by omega⟩
end Go.Proofs.YtbbplhpkhholeaaGreatDoor
