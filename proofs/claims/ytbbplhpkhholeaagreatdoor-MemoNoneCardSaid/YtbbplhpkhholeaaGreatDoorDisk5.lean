/- Package disk: Append. -/
import Derived.Test.YtbbplhpkhholeaaGreatDoorDisk4
import Derived.WalkMore
import Derived.Deep.QuietTactic
import Derived.BigQuiet
set_option linter.unusedVariables false
set_option linter.unusedSimpArgs false
set_option maxRecDepth 20000
namespace Go.Proofs.YtbbplhpkhholeaaGreatDoor
open Go.RowKit Go.Maps

/-- What bounds Append's loop keeps. -/
structure Bnd (d : Dk) (s : ByteArray) (n : Nat) : Prop where
  ok : DkOk d
  wr : d.writes + n ≤ 4611686018427387904
  ln : ((flook d.fs s).getD []).length + n ≤ 4194304
  rm : (flook d.fs s).isSome = true ∨ d.fs.length < 256
def lenV : Value → Nat
  | .slice _ n _ => n
  | _ => 0
theorem pieces_nil (s : ByteArray) (n : Nat) (d : Dk) : Dk.pieces s n d [] = (d, 0) := by
  cases n <;> simp [Dk.pieces]
theorem pieces_none (s : ByteArray) {d : Dk} {bs : List Int} (h : 0 < bs.length) (hr : d.raw = none) : Dk.pieces s bs.length d bs = (d, 6) := by
  obtain ⟨n, hn⟩ : ∃ n, bs.length = n + 1 := ⟨bs.length - 1, by omega⟩
  have hne : bs ≠ [] := by rintro rfl; simp at h
  rw [hn, Dk.pieces, if_neg hne, hr]
theorem pieces_some (s : ByteArray) {d d1 : Dk} {bs : List Int} (h : 0 < bs.length) (hr : d.raw = some d1) :
    Dk.pieces s bs.length d bs = Dk.pieces s (bs.drop 32).length { d1 with fs := fput d1.fs s ((flook d1.fs s).getD [] ++ bs.take 32) } (bs.drop 32) := by
  obtain ⟨n, hn⟩ : ∃ n, bs.length = n + 1 := ⟨bs.length - 1, by omega⟩
  have hne : bs ≠ [] := by rintro rfl; simp at h
  rw [hn, Dk.pieces, if_neg hne, hr]
  exact pieces_fuel s _ _ _ _ (by simp; omega) (Nat.le_refl _)
theorem raw_writes {d d1 : Dk} (hr : d.raw = some d1) : d1.writes = d.writes + 1 := by
  unfold Dk.raw at hr
  split at hr
  · split at hr
    · cases hr
    · cases hr; rfl
  · cases hr; rfl
theorem DkOk.raw {d d1 : Dk} (h : DkOk d) (hr : d.raw = some d1) (hw : d.writes + 1 ≤ 4611686018427387904) : DkOk d1 := by
  have h1 := h.w0
  have h2 := h.l0
  have h3 := h.l1
  unfold Dk.raw at hr
  split at hr
  · split at hr
    · cases hr
    · cases hr
      exact ⟨by simp only; omega, by simp only; omega, by simp only; omega, by simp only; omega, h.n1⟩
  · cases hr
    exact ⟨by simp only; omega, by simp only; omega, by simp only; omega, by simp only; omega, h.n1⟩
theorem DkOk.put {d : Dk} (h : DkOk d) (hn : (names d.fs).Nodup) (s : ByteArray) (b : List Int) (hr : (flook d.fs s).isSome = true ∨ d.fs.length < 256) : DkOk { d with fs := fput d.fs s b } := by
  refine ⟨h.w0, h.w1, h.l0, h.l1, ?_⟩
  simp only
  rw [length_put hn]
  have := h.n1
  split
  · exact this
  · rename_i hh
    rcases hr with hr | hr
    · exact absurd hr hh
    · omega
theorem IsDisk.nodup {w : World} {p : Nat} {d : Dk} {S : Nat → Prop} (h : IsDisk w p d S) : (names d.fs).Nodup := by
  obtain ⟨_, _, _, _, h3, _⟩ := h
  exact h3.nodup
/-- A piece written. -/
theorem append_piece (wr : World) (p : Nat) (d : Dk) (S : Nat → Prop) (s : ByteArray) (x1 x2 : Nat) (b o c : Nat) (news : List Int) (h : IsDisk wr p d S) (hd : DkOk d) (hs : s.size ≤ maxLen)
    (hx1 : wr.cell? ⟨x1, 0, none⟩ = some (.pointer (some ⟨p, 0, none⟩))) (hx2 : wr.cell? ⟨x2, 0, none⟩ = some (.string s)) (n1 : ¬ S x1) (n2 : ¬ S x2) (nb : ¬ S b)
    (hsl : SlN wr .u8 (.slice (some ⟨b, o, none⟩) news.length c) news) (h0 : 0 < news.length) (hby : Byts news) (hlen : ((flook d.fs s).getD []).length + news.length ≤ 4194304) :
    Calls Tryz.prog 51 #[.pointer (some ⟨p, 0, none⟩), .func (.func 53) #[] #[.pointer (some ⟨x1, 0, none⟩), .pointer (some ⟨x2, 0, none⟩), .pointer (some ⟨wr.heap.size, 0, none⟩)]]
      (wr.alloc (.cells #[.slice (some ⟨b, o, none⟩) news.length c] 25)) fun en w' =>
      (d.raw = none ∧ en = .returned (.int .i64 6) ∧ wr.alloc (.cells #[.slice (some ⟨b, o, none⟩) news.length c] 25) = w') ∨
      (en = .returned (.int .i64 0) ∧ ∃ d1 S', d.raw = some d1 ∧ IsDisk w' p { d1 with fs := fput d1.fs s ((flook d1.fs s).getD [] ++ news) } S' ∧ Fr S wr w' ∧ ∀ k, S' k → S k ∨ wr.heap.size < k) := by
  have hb := h
  obtain ⟨_, _, _, _, _, hSp, _, _, h7⟩ := id h
  have l1 := World.block_lt_of_cell? wr _ hx1
  have l2 := World.block_lt_of_cell? wr _ hx2
  simp only at l1 l2
  have hfa : Fr (fun _ => False) wr (wr.alloc (.cells #[.slice (some ⟨b, o, none⟩) news.length c] 25)) := (Fr.refl _ _).alloc _
  have hi := h.fr hfa (fun _ _ h => h)
  refine (raw_disk _ p d S _ _ (fun w' => ∃ d1 S', d.raw = some d1 ∧ IsDisk w' p { d1 with fs := fput d1.fs s ((flook d1.fs s).getD [] ++ news) } S' ∧ Fr S wr w' ∧ ∀ k, S' k → S k ∨ wr.heap.size < k) hi hd (fun _ _ => rfl) (fun w1 d1 hr1 hi1 hf1 hz1 => ?_)).mono ?_
  · have hfs := raw_fs hr1
    have hps : p < wr.heap.size := h7 p hSp
    have hf01 : Fr (fun k => k = p) wr w1 := (hfa.mono (fun _ _ h => h.elim)).trans' hf1
    have hxp1 : x1 ≠ p := fun e => n1 (e ▸ hSp)
    have hxp2 : x2 ≠ p := fun e => n2 (e ▸ hSp)
    refine (append2_disk w1 p d1 S x1 x2 wr.heap.size s b o c news hi1 hs (by rw [hfs]; exact hd.n1) (hf01.cell hx1 hxp1) (hf01.cell hx2 hxp2) (hf1.cell (by simp) (fun e => by simp only at e; omega)) n1 n2 (fun e => by have := h7 _ e; omega)
      (hsl.fr hf01 ?_) h0 hby (by rw [hfs]; exact hlen)).mono ?_
    · intro g _ e e2
      cases e2
      simp only at e
      exact nb (e ▸ hSp)
    · rintro e w2 ⟨rfl, S', hI2, hF2, hS2⟩
      refine ⟨rfl, d1, S', hr1, hI2, (hf01.mono (fun i _ e => e ▸ hSp)).trans' hF2, fun k hk => (hS2 k hk).imp id (fun h => ?_)⟩
      rw [hz1] at h
      simp at h
      omega
  · rintro e w2 (⟨hr, rfl, rfl⟩ | ⟨-, rfl, hR⟩)
    · exact .inl ⟨hr, rfl, rfl⟩
    · exact .inr ⟨rfl, hR⟩
theorem append_any (w : World) (p : Nat) (d : Dk) (S : Nat → Prop) (s : ByteArray) (v : Value) (bs : List Int) (h : IsDisk w p d S) (hd : DkOk d) (hw : d.writes + 5000000 ≤ 4611686018427387904) (hs : s.size ≤ maxLen)
    (hv : SlN w .u8 v bs) (hb : Byts bs) (hvS : ∀ g, v.ownBlock = some g → ¬ S g) :
    Calls Tryz.prog 17 #[.pointer (some ⟨p, 0, none⟩), .string s, v] w fun en w' => en = .returned (.int .i64 (d.append s bs).2) ∧
      ∃ S', IsDisk w' p (d.append s bs).1 S' ∧ Fr S w w' ∧ ∀ k, S' k → S k ∨ w.heap.size ≤ k := by
  obtain ⟨A, c, rfl, hlc, hc, hat⟩ := hv.form
  have hmay := fun w => may_any w s hs
  have hst : ∃ b, (0 < bs.length → b < w.heap.size ∧ ¬ S b) ∧ (0 < bs.length → ∃ off, A = some ⟨b, off, none⟩) := by
    by_cases e : 0 < bs.length
    · obtain ⟨b, off, rfl, hcell⟩ := hat 0 e
      exact ⟨b, fun _ => ⟨World.block_lt_of_cell? w _ hcell, hvS b rfl⟩, fun _ => ⟨off, rfl⟩⟩
    · exact ⟨0, fun h => absurd h e, fun h => absurd h e⟩
  obtain ⟨b, hb1, hb2⟩ := hst
  by_cases hm : mayN s = true
  · obtain ⟨mb, D, h1, h2, h3, h4, h5, h6, h7⟩ := id h
    have c0 : w.cell? ⟨p, 0, none⟩ = some (.map (some mb)) := h1.cell 0 rfl
    obtain ⟨W2, hW2⟩ : ∃ W2, (w.alloc (.cells #[.pointer (some ⟨p, 0, none⟩)] 32)).alloc (.cells #[.string s] 9) = W2 := ⟨_, rfl⟩
    have hf2 : Fr (fun _ => False) w W2 := by rw [← hW2]; exact ((Fr.refl _ w).alloc _).alloc _
    have hs2 : W2.heap.size = w.heap.size + 2 := by rw [← hW2]; simp
    have hm2 : ∀ n, (W2.drewN n).ownsMap Tryz.prog 9 HR mb d.fs.length D := fun n => ownsMap_fr h2 (hf2.drewN n) (fun h => h)
    have hlen : ∀ ty n, (Builtin.len_ #[104] ty #[.map (some mb)]).run Tryz.prog (W2.drewN n) = .ok (.int .i64 d.fs.length) (W2.drewN n) := fun ty n => by
      rw [(hm2 n).len Tryz.underlying104 ty, h3.size]
    have hlk : ∀ n, _ := fun n => look_cases (hm2 n) keyed_str Tryz.underlying104 (zeroB (W2.drewN n)) (keyOf_str hs)
    have hcA : W2.cell? ⟨p, 0, none⟩ = some (.map (some mb)) := hf2.cell c0 (fun h => h)
    have hbx1 : W2.cell? ⟨w.heap.size, 0, none⟩ = some (.pointer (some ⟨p, 0, none⟩)) := by
      rw [← hW2]
      simp
    have hbx2 : W2.cell? ⟨w.heap.size + 1, 0, none⟩ = some (.string s) := by
      rw [← hW2]
      simp
    have happ : d.append s bs = (if (flook d.fs s).isNone = true ∧ d.fs.length = 256 ∨ 4194304 < ((flook d.fs s).getD []).length + bs.length then (d, (3 : Int))
      else if bs = [] ∧ (flook d.fs s).isNone = true then d.touch s
      else Dk.pieces s bs.length d bs) := by unfold Dk.append; rw [if_pos hm]
    cases hf : flook d.fs s with
    | none =>
      rw [h3.no s hf] at hlk
      rw [hf] at happ
      simp only [Option.getD_none, Option.isSome_none, Option.isNone_none, true_and, List.length_nil, Nat.zero_add, and_true] at hlk happ
      have HA := Lib.hid happ
      have HH := Lib.hid h
      have HV := Lib.hid hv
      have HM := Lib.hid hmay
      have HF := Lib.hid hf2
      have HS := Lib.hid hs
      have hps : p < w.heap.size := h7 p h4
      have HIS := Lib.hid h4
      have HB1 : Hid (w.heap.size ≠ p) := Lib.hid (by omega)
      have HB2 : Hid (w.heap.size + 1 ≠ p) := Lib.hid (by omega)
      clear h hv hmay hs h2 h3 hat hvS happ hm2 hf2
      go_enter Tryz.func17, Tryz.ntmps17
      go_wp2_with fail
      go_step3
      go_wp2_with fail
      refine (HM.out _).mono ?_
      rintro e w1 ⟨rfl, rfl⟩
      rw [hm]
      go_wp2_with fail
      go_quiet (fail)
      clear hlk
      by_cases hn : d.fs.length = 256
      · have hnb : ((d.fs.length : Int) == 256) = true := by simp; omega
        go_wp2
        simp only [Exit.noGoto_ret]
        go_ret
        rw [HA.out, if_pos (.inl hn)]
        exact ⟨rfl, S, HH.out.fr (HF.out.drewN _) (fun _ _ h => h), (HF.out.drewN _).mono (fun _ _ h => h.elim), fun k hk => .inl hk⟩
      · have hnb : ((d.fs.length : Int) == 256) = false := by simp; omega
        by_cases hbig : 4194304 < bs.length
        · go_wp2
          simp only [Exit.noGoto_ret]
          go_ret
          rw [HA.out, if_pos (.inr hbig)]
          exact ⟨rfl, S, HH.out.fr (HF.out.drewN _) (fun _ _ h => h), (HF.out.drewN _).mono (fun _ _ h => h.elim), fun k hk => .inl hk⟩
        · have hbf : decide (4194304 < (bs.length : Int)) = false := by simp; omega
          by_cases hz : bs.length = 0
          · have hzb : ((bs.length : Int) == 0) = true := by rw [hz]; rfl
            have hzl : bs = [] := List.eq_nil_of_length_eq_zero hz
            go_wp2_with fail
            have HI : IsDisk (W2.drewN nq) p d S := HH.out.fr (HF.out.drewN _) (fun _ _ h => h)
            refine (raw_disk (W2.drewN nq) p d S _ _ (fun w' => ∃ d1, d.raw = some d1 ∧ IsDisk w' p { d1 with fs := fput d1.fs s [] } S ∧ Fr S (W2.drewN nq) w') HI hd (fun _ _ => rfl) (fun w1 d1 hr1 hi1 hf1 hz1 =>
              (append1_disk w1 p d1 S _ _ s hi1 HS.out (by rw [raw_fs hr1]; exact hd.n1) (hf1.cell hbx1 HB1.out) (hf1.cell hbx2 HB2.out)).mono ?_)).mono ?_
            · rintro e w2 ⟨rfl, hI2, hF2⟩
              exact ⟨rfl, d1, hr1, hI2, hf1.mono (fun i _ e => e ▸ HIS.out) |>.trans' hF2⟩
            · rintro e w2 (⟨hr, rfl, rfl⟩ | ⟨-, rfl, d1, hr, hI2, hF2⟩)
              · go_wp2
                simp only [Exit.noGoto_ret]
                go_ret
                rw [HA.out, if_neg (by rintro (h | h) <;> omega), if_pos hzl, Dk.touch, hr]
                exact ⟨rfl, S, HI, (HF.out.drewN _).mono (fun _ _ h => h.elim), fun k hk => .inl hk⟩
              · have HI2 := Lib.hid hI2
                have HF2 := Lib.hid hF2
                clear hI2 hF2
                go_wp2
                simp only [Exit.noGoto_ret]
                go_ret
                rw [HA.out, if_neg (by rintro (h | h) <;> omega), if_pos hzl, Dk.touch, hr]
                exact ⟨rfl, S, HI2.out, ((HF.out.drewN _).mono (fun _ _ h => h.elim)).trans' HF2.out, fun k hk => .inl hk⟩
          · have hzb : ((bs.length : Int) == 0) = false := beq_false_of_ne (by omega)
            go_wp2_with fail
            go_step3
            go_wp2_with fail
            have hat0 := hb2 (by omega)
            obtain ⟨off, rfl⟩ := hat0
            have hbb := hb1 (by omega)
            clear hb1 hb2
            have HSb := Lib.hid hbb.2
            have hbl := hbb.1
            clear hbb
            go_loopw [2] (fun t2 wr => ∃ (rest : List Int) (o' c' : Nat) (di : Dk) (Si : Nat → Prop), t2 = .slice (some ⟨b, o', none⟩) rest.length c' ∧ Hid (SlN wr .u8 (.slice (some ⟨b, o', none⟩) rest.length c') rest) ∧ Hid (IsDisk wr p di Si) ∧ Hid (Fr S w wr) ∧ Hid (∀ k, Si k → S k ∨ w.heap.size + 2 ≤ k) ∧
              Hid (wr.cell? ⟨w.heap.size, 0, none⟩ = some (.pointer (some ⟨p, 0, none⟩))) ∧ Hid (wr.cell? ⟨w.heap.size + 1, 0, none⟩ = some (.string s)) ∧ Hid (Byts rest) ∧ Hid (Dk.pieces s rest.length di rest = d.append s bs) ∧ Hid (Bnd di s rest.length)) (fun t2 _ => lenV t2)
            case atStart => exact ⟨bs, off, c, d, S, rfl, Lib.hid (HV.out.fr (HF.out.drewN _) (fun _ _ h => h.elim)), Lib.hid (HH.out.fr (HF.out.drewN _) (fun _ _ h => h)), Lib.hid ((HF.out.drewN _).mono (fun _ _ h => h.elim)), Lib.hid (fun k hk => .inl hk),
              Lib.hid hbx1, Lib.hid hbx2, Lib.hid hb, Lib.hid (by rw [HA.out, if_neg (by rintro (h | h) <;> omega), if_neg (by rintro rfl; exact hz rfl)]), Lib.hid ⟨hd, by omega, by rw [hf]; simp only [Option.getD_none, List.length_nil]; omega, by right; have := hd.n1; omega⟩⟩
            case round =>
              obtain ⟨rest, o', c', di, Si, rfl, hsl, hdi, hfr, hsi, hx1, hx2, hby, hpc, hbd⟩ := hrel
              by_cases hr0 : rest.length = 0
              · go_wp2
                simp only [Exit.noGoto_ret]
                go_ret
                have hrn : rest = [] := List.eq_nil_of_length_eq_zero hr0
                have hp := hpc.out
                rw [hrn, pieces_nil] at hp
                rw [← hp]
                exact ⟨rfl, Si, hdi.out, hfr.out, fun k hk => (hsi.out k hk).imp id (fun h => by omega)⟩
              · have hcc : rest.length ≤ c' ∧ c' ≤ 9223372036854775807 := by
                  obtain ⟨_, _, e', hlc', hc', _⟩ := hsl.out.form
                  cases e'
                  exact ⟨hlc', hc'⟩
                obtain ⟨hlc', hc'⟩ := hcc
                have e1 := hx1.out
                have e2 := hx2.out
                have l2 : w.heap.size + 1 < wr.heap.size := World.block_lt_of_cell? wr _ e2
                have l1 : w.heap.size < wr.heap.size := by omega
                have hr1 : 0 < rest.length := by omega
                have hbd' := hbd.out
                obtain ⟨hok, hwr', hln', hrm⟩ := hbd'
                have hnx1 : ¬ Si w.heap.size := fun h => (hsi.out _ h).elim (fun h => by have := h7 _ h; omega) (fun h => by omega)
                have hnx2 : ¬ Si (w.heap.size + 1) := fun h => (hsi.out _ h).elim (fun h => by have := h7 _ h; omega) (fun h => by omega)
                have hnb : ¬ Si b := fun h => (hsi.out _ h).elim HSb.out (fun h => by omega)
                obtain ⟨m, news, hm32, hmn, hnl, hnews⟩ : ∃ (m : Nat) (news : List Int), m = min rest.length 32 ∧ m = news.length ∧ news = rest.take 32 ∧ SlN wr .u8 (.slice (some ⟨b, o', none⟩) news.length c') news := by
                  refine ⟨min rest.length 32, rest.take 32, rfl, by simp; omega, rfl, ?_⟩
                  have := SlN.take hsl.out (n := (rest.take 32).length) (by simp; omega) (c' := c') (by simp; omega) (Nat.le_refl _)
                  rw [show rest.take (rest.take 32).length = rest.take 32 from by simp [List.take_take]] at this
                  exact this
                have HPC := Lib.hid (append_piece wr p di Si s w.heap.size (w.heap.size + 1) b o' c' news hdi.out hok HS.out e1 e2 hnx1 hnx2 hnb hnews (by omega) (hnl ▸ hby.out.take 32) (by omega))
                rw [← hmn] at HPC
                have stop : di.raw = none → d.append s bs = (di, 6) := fun h => by rw [← hpc.out]; exact pieces_none s hr1 h
                have hia : ∀ o, IsDisk (wr.alloc o) p di Si := fun o => hdi.out.fr (T := fun _ => False) ((Fr.refl _ wr).alloc _) (fun _ _ h => h)
                have HST := Lib.hid stop
                have HIA := Lib.hid hia
                clear stop hia
                have next : ∀ (d1 : Dk) (S1 : Nat → Prop) (w2 : World) (o2 c2 : Nat), di.raw = some d1 → IsDisk w2 p { d1 with fs := fput d1.fs s ((flook d1.fs s).getD [] ++ news) } S1 → Fr Si wr w2 → (∀ k, S1 k → Si k ∨ wr.heap.size < k) →
                    SlN wr .u8 (.slice (some ⟨b, o2, none⟩) (rest.drop 32).length c2) (rest.drop 32) →
                    ∃ (rest' : List Int) (o' c' : Nat) (di : Dk) (Si : Nat → Prop), Value.slice (some ⟨b, o2, none⟩) (rest.drop 32).length c2 = .slice (some ⟨b, o', none⟩) rest'.length c' ∧ Hid (SlN w2 .u8 (.slice (some ⟨b, o', none⟩) rest'.length c') rest') ∧ Hid (IsDisk w2 p di Si) ∧ Hid (Fr S w w2) ∧ Hid (∀ k, Si k → S k ∨ w.heap.size + 2 ≤ k) ∧
              Hid (w2.cell? ⟨w.heap.size, 0, none⟩ = some (.pointer (some ⟨p, 0, none⟩))) ∧ Hid (w2.cell? ⟨w.heap.size + 1, 0, none⟩ = some (.string s)) ∧ Hid (Byts rest') ∧ Hid (Dk.pieces s rest'.length di rest' = d.append s bs) ∧ Hid (Bnd di s rest'.length) := by
                  intro d1 S1 w2 o2 c2 hraw hi2 hf2 hs2 hsl2
                  have hfs := raw_fs hraw
                  have hwrs := raw_writes hraw
                  refine ⟨rest.drop 32, o2, c2, _, S1, rfl, Lib.hid (hsl2.fr hf2 (fun g _ hg e => by cases e; exact hnb hg)), Lib.hid hi2, Lib.hid (hfr.out.trans hf2 (fun i hi h => (hsi.out i h).elim id (fun h => by omega))), Lib.hid (fun k hk => (hs2 k hk).elim (fun h => hsi.out k h) (fun h => .inr (by omega))),
                    Lib.hid (hf2.cell e1 hnx1), Lib.hid (hf2.cell e2 hnx2), Lib.hid (hby.out.drop 32), Lib.hid ?_, Lib.hid ⟨?_, ?_, ?_, ?_⟩⟩
                  · rw [← hpc.out, pieces_some s hr1 hraw, hnl]
                  · have := (hok.raw hraw (by omega)).put (hfs ▸ hdi.out.nodup) s ((flook d1.fs s).getD [] ++ news) (by rw [hfs]; exact hrm)
                    exact this
                  · simp only [List.length_drop]
                    omega
                  · simp only [flook_put_same, Option.getD_some, List.length_append, List.length_drop, hfs]
                    omega
                  · left
                    simp [flook_put_same]
                have HNX := Lib.hid next
                clear next hcA hbx1 hbx2 h7 h6 hlen hx1 hx2 hby hpc hbd hok hwr' hln' hrm hnews hnx1 hnx2 hnb hdi hw hd
                by_cases h32 : rest.length ≤ 32
                · have hmr : m = rest.length := by omega
                  have hdn := Lib.hid (List.drop_eq_nil_of_le h32)
                  clear hmn hnl hm32
                  subst hmr
                  by_cases hcl : c' = rest.length
                  · subst hcl
                    go_wp2_with fail
                    refine HPC.out.mono ?_
                    rintro e w2 (⟨hr, rfl, rfl⟩ | ⟨rfl, d1, S1, hr, hi2, hf2, hs2⟩)
                    · go_wp2
                      simp only [Exit.noGoto_ret]
                      go_ret
                      rw [HST.out hr]
                      exact ⟨rfl, Si, HIA.out _, hfr.out.alloc _, fun k hk => (hsi.out k hk).imp id (fun h => by omega)⟩
                    · have HX := Lib.hid (HNX.out d1 S1 w2 o' 0 hr hi2 hf2 hs2 (by rw [hdn.out]; exact SlN.empty _ _ _ _ (fun ad e => by cases e; rfl) (by omega) (fun e => by cases e)))
                      clear hr hi2 hf2 hs2
                      go_wp2
                      go_roundw
                      case rel => rw [hdn.out] at HX; exact HX.out
                      case measure => simp [lenV]; omega
                  · go_wp2_with fail
                    refine HPC.out.mono ?_
                    rintro e w2 (⟨hr, rfl, rfl⟩ | ⟨rfl, d1, S1, hr, hi2, hf2, hs2⟩)
                    · go_wp2
                      simp only [Exit.noGoto_ret]
                      go_ret
                      rw [HST.out hr]
                      exact ⟨rfl, Si, HIA.out _, hfr.out.alloc _, fun k hk => (hsi.out k hk).imp id (fun h => by omega)⟩
                    · have HX := Lib.hid (HNX.out d1 S1 w2 (o' + rest.length) (c' - rest.length) hr hi2 hf2 hs2 (by rw [hdn.out]; exact SlN.empty _ _ _ _ (fun ad e => by cases e; rfl) (by omega) (fun e => by cases e)))
                      clear hr hi2 hf2 hs2
                      go_wp2
                      go_roundw
                      case rel => rw [hdn.out] at HX; exact HX.out
                      case measure => simp [lenV]; omega
                · have hmr : m = 32 := by omega
                  clear hmn hnl hm32
                  subst hmr
                  go_wp2_with fail
                  refine HPC.out.mono ?_
                  rintro e w2 (⟨hr, rfl, rfl⟩ | ⟨rfl, d1, S1, hr, hi2, hf2, hs2⟩)
                  · go_wp2
                    simp only [Exit.noGoto_ret]
                    go_ret
                    rw [HST.out hr]
                    exact ⟨rfl, Si, HIA.out _, hfr.out.alloc _, fun k hk => (hsi.out k hk).imp id (fun h => by omega)⟩
                  · have HX := Lib.hid (HNX.out d1 S1 w2 (o' + 32) (c' - 32) hr hi2 hf2 hs2 (by rw [List.length_drop]; exact SlN.drop hsl.out (by omega)))
                    rw [List.length_drop] at HX
                    clear hr hi2 hf2 hs2
                    go_wp2
                    go_roundw
                    case rel => exact HX.out
                    case measure => simp [lenV]; omega
    | some olds =>
      obtain ⟨hbo, hlo, v0, hv0, hown⟩ := h3.yes s olds hf
      obtain ⟨A0, c0', rfl, hlc0, hc0, hat0⟩ := (SlN.of_own hown).form
      rw [hv0] at hlk
      rw [hf] at happ
      simp only [Option.getD_some, Option.isSome_some, Option.isNone_some, Bool.false_eq_true, false_and, false_or, and_false, if_false] at hlk happ
      have HA := Lib.hid happ
      have HH := Lib.hid h
      have HV := Lib.hid hv
      have HM := Lib.hid hmay
      have HF := Lib.hid hf2
      have HS := Lib.hid hs
      have hps : p < w.heap.size := h7 p h4
      have HIS := Lib.hid h4
      have HB1 : Hid (w.heap.size ≠ p) := Lib.hid (by omega)
      have HB2 : Hid (w.heap.size + 1 ≠ p) := Lib.hid (by omega)
      clear h hv hmay hs h2 h3 hat hvS happ hm2 hf2 hown hat0 hv0
      go_enter Tryz.func17, Tryz.ntmps17
      go_wp2_with fail
      go_step3
      go_wp2_with fail
      refine (HM.out _).mono ?_
      rintro e w1 ⟨rfl, rfl⟩
      rw [hm]
      go_wp2_with fail
      go_quiet (fail)
      clear hlk
      by_cases hbig : 4194304 < olds.length + bs.length
      · have hbf : decide (4194304 - (olds.length : Int) < (bs.length : Int)) = true := by simp; omega
        go_wp2
        simp only [Exit.noGoto_ret]
        go_ret
        rw [HA.out, if_pos hbig]
        exact ⟨rfl, S, HH.out.fr (HF.out.drewN _) (fun _ _ h => h), (HF.out.drewN _).mono (fun _ _ h => h.elim), fun k hk => .inl hk⟩
      · have hbf : decide (4194304 - (olds.length : Int) < (bs.length : Int)) = false := by simp; omega
        by_cases hz : bs.length = 0
        · have hzb : ((bs.length : Int) == 0) = true := by rw [hz]; rfl
          have hzl : bs = [] := List.eq_nil_of_length_eq_zero hz
          clear hbig
          go_wp2_with fail
          go_step3
          go_wp2_with fail
          go_loopw [2] (fun t2 wr => t2 = .slice A bs.length c ∧ wr = W2.drewN nq) (fun t2 _ => lenV t2)
          case atStart => exact ⟨rfl, rfl⟩
          case round =>
            obtain ⟨rfl, rfl⟩ := hrel
            go_wp2
            simp only [Exit.noGoto_ret]
            go_ret
            rw [HA.out, if_neg (by omega), hzl]
            simp only [List.length_nil, pieces_nil]
            exact ⟨rfl, S, HH.out.fr (HF.out.drewN _) (fun _ _ h => h), (HF.out.drewN _).mono (fun _ _ h => h.elim), fun k hk => .inl hk⟩
        · have hzb : ((bs.length : Int) == 0) = false := beq_false_of_ne (by omega)
          have hat0 := hb2 (by omega)
          obtain ⟨off, rfl⟩ := hat0
          have hbb := hb1 (by omega)
          clear hb1 hb2
          have HSb := Lib.hid hbb.2
          have hbl := hbb.1
          clear hbb
          go_wp2_with fail
          go_step3
          go_wp2_with fail
          go_loopw [2] (fun t2 wr => ∃ (rest : List Int) (o' c' : Nat) (di : Dk) (Si : Nat → Prop), t2 = .slice (some ⟨b, o', none⟩) rest.length c' ∧ Hid (SlN wr .u8 (.slice (some ⟨b, o', none⟩) rest.length c') rest) ∧ Hid (IsDisk wr p di Si) ∧ Hid (Fr S w wr) ∧ Hid (∀ k, Si k → S k ∨ w.heap.size + 2 ≤ k) ∧
            Hid (wr.cell? ⟨w.heap.size, 0, none⟩ = some (.pointer (some ⟨p, 0, none⟩))) ∧ Hid (wr.cell? ⟨w.heap.size + 1, 0, none⟩ = some (.string s)) ∧ Hid (Byts rest) ∧ Hid (Dk.pieces s rest.length di rest = d.append s bs) ∧ Hid (Bnd di s rest.length)) (fun t2 _ => lenV t2)
          case atStart => exact ⟨bs, off, c, d, S, rfl, Lib.hid (HV.out.fr (HF.out.drewN _) (fun _ _ h => h.elim)), Lib.hid (HH.out.fr (HF.out.drewN _) (fun _ _ h => h)), Lib.hid ((HF.out.drewN _).mono (fun _ _ h => h.elim)), Lib.hid (fun k hk => .inl hk),
            Lib.hid hbx1, Lib.hid hbx2, Lib.hid hb, Lib.hid (by rw [HA.out, if_neg (by omega)]), Lib.hid ⟨hd, by omega, by rw [hf]; simp only [Option.getD_some]; omega, by left; rw [hf]; rfl⟩⟩
          case round =>
            obtain ⟨rest, o', c', di, Si, rfl, hsl, hdi, hfr, hsi, hx1, hx2, hby, hpc, hbd⟩ := hrel
            by_cases hr0 : rest.length = 0
            · go_wp2
              simp only [Exit.noGoto_ret]
              go_ret
              have hrn : rest = [] := List.eq_nil_of_length_eq_zero hr0
              have hp := hpc.out
              rw [hrn, pieces_nil] at hp
              rw [← hp]
              exact ⟨rfl, Si, hdi.out, hfr.out, fun k hk => (hsi.out k hk).imp id (fun h => by omega)⟩
            · have hcc : rest.length ≤ c' ∧ c' ≤ 9223372036854775807 := by
                obtain ⟨_, _, e', hlc', hc', _⟩ := hsl.out.form
                cases e'
                exact ⟨hlc', hc'⟩
              obtain ⟨hlc', hc'⟩ := hcc
              have e1 := hx1.out
              have e2 := hx2.out
              have l2 : w.heap.size + 1 < wr.heap.size := World.block_lt_of_cell? wr _ e2
              have l1 : w.heap.size < wr.heap.size := by omega
              have hr1 : 0 < rest.length := by omega
              have hbd' := hbd.out
              obtain ⟨hok, hwr', hln', hrm⟩ := hbd'
              have hnx1 : ¬ Si w.heap.size := fun h => (hsi.out _ h).elim (fun h => by have := h7 _ h; omega) (fun h => by omega)
              have hnx2 : ¬ Si (w.heap.size + 1) := fun h => (hsi.out _ h).elim (fun h => by have := h7 _ h; omega) (fun h => by omega)
              have hnb : ¬ Si b := fun h => (hsi.out _ h).elim HSb.out (fun h => by omega)
              obtain ⟨m, news, hm32, hmn, hnl, hnews⟩ : ∃ (m : Nat) (news : List Int), m = min rest.length 32 ∧ m = news.length ∧ news = rest.take 32 ∧ SlN wr .u8 (.slice (some ⟨b, o', none⟩) news.length c') news := by
                refine ⟨min rest.length 32, rest.take 32, rfl, by simp; omega, rfl, ?_⟩
                have := SlN.take hsl.out (n := (rest.take 32).length) (by simp; omega) (c' := c') (by simp; omega) (Nat.le_refl _)
                rw [show rest.take (rest.take 32).length = rest.take 32 from by simp [List.take_take]] at this
                exact this
              have HPC := Lib.hid (append_piece wr p di Si s w.heap.size (w.heap.size + 1) b o' c' news hdi.out hok HS.out e1 e2 hnx1 hnx2 hnb hnews (by omega) (hnl ▸ hby.out.take 32) (by omega))
              rw [← hmn] at HPC
              have stop : di.raw = none → d.append s bs = (di, 6) := fun h => by rw [← hpc.out]; exact pieces_none s hr1 h
              have hia : ∀ o, IsDisk (wr.alloc o) p di Si := fun o => hdi.out.fr (T := fun _ => False) ((Fr.refl _ wr).alloc _) (fun _ _ h => h)
              have HST := Lib.hid stop
              have HIA := Lib.hid hia
              clear stop hia
              have next : ∀ (d1 : Dk) (S1 : Nat → Prop) (w2 : World) (o2 c2 : Nat), di.raw = some d1 → IsDisk w2 p { d1 with fs := fput d1.fs s ((flook d1.fs s).getD [] ++ news) } S1 → Fr Si wr w2 → (∀ k, S1 k → Si k ∨ wr.heap.size < k) →
                  SlN wr .u8 (.slice (some ⟨b, o2, none⟩) (rest.drop 32).length c2) (rest.drop 32) →
                  ∃ (rest' : List Int) (o' c' : Nat) (di : Dk) (Si : Nat → Prop), Value.slice (some ⟨b, o2, none⟩) (rest.drop 32).length c2 = .slice (some ⟨b, o', none⟩) rest'.length c' ∧ Hid (SlN w2 .u8 (.slice (some ⟨b, o', none⟩) rest'.length c') rest') ∧ Hid (IsDisk w2 p di Si) ∧ Hid (Fr S w w2) ∧ Hid (∀ k, Si k → S k ∨ w.heap.size + 2 ≤ k) ∧
            Hid (w2.cell? ⟨w.heap.size, 0, none⟩ = some (.pointer (some ⟨p, 0, none⟩))) ∧ Hid (w2.cell? ⟨w.heap.size + 1, 0, none⟩ = some (.string s)) ∧ Hid (Byts rest') ∧ Hid (Dk.pieces s rest'.length di rest' = d.append s bs) ∧ Hid (Bnd di s rest'.length) := by
                intro d1 S1 w2 o2 c2 hraw hi2 hf2 hs2 hsl2
                have hfs := raw_fs hraw
                have hwrs := raw_writes hraw
                refine ⟨rest.drop 32, o2, c2, _, S1, rfl, Lib.hid (hsl2.fr hf2 (fun g _ hg e => by cases e; exact hnb hg)), Lib.hid hi2, Lib.hid (hfr.out.trans hf2 (fun i hi h => (hsi.out i h).elim id (fun h => by omega))), Lib.hid (fun k hk => (hs2 k hk).elim (fun h => hsi.out k h) (fun h => .inr (by omega))),
                  Lib.hid (hf2.cell e1 hnx1), Lib.hid (hf2.cell e2 hnx2), Lib.hid (hby.out.drop 32), Lib.hid ?_, Lib.hid ⟨?_, ?_, ?_, ?_⟩⟩
                · rw [← hpc.out, pieces_some s hr1 hraw, hnl]
                · have := (hok.raw hraw (by omega)).put (hfs ▸ hdi.out.nodup) s ((flook d1.fs s).getD [] ++ news) (by rw [hfs]; exact hrm)
                  exact this
                · simp only [List.length_drop]
                  omega
                · simp only [flook_put_same, Option.getD_some, List.length_append, List.length_drop, hfs]
                  omega
                · left
                  simp [flook_put_same]
              have HNX := Lib.hid next
              clear next hcA hbx1 hbx2 h7 h6 hlen hx1 hx2 hby hpc hbd hok hwr' hln' hrm hnews hnx1 hnx2 hnb hdi hw hd
              by_cases h32 : rest.length ≤ 32
              · have hmr : m = rest.length := by omega
                have hdn := Lib.hid (List.drop_eq_nil_of_le h32)
                clear hmn hnl hm32
                subst hmr
                by_cases hcl : c' = rest.length
                · subst hcl
                  go_wp2_with fail
                  refine HPC.out.mono ?_
                  rintro e w2 (⟨hr, rfl, rfl⟩ | ⟨rfl, d1, S1, hr, hi2, hf2, hs2⟩)
                  · go_wp2
                    simp only [Exit.noGoto_ret]
                    go_ret
                    rw [HST.out hr]
                    exact ⟨rfl, Si, HIA.out _, hfr.out.alloc _, fun k hk => (hsi.out k hk).imp id (fun h => by omega)⟩
                  · have HX := Lib.hid (HNX.out d1 S1 w2 o' 0 hr hi2 hf2 hs2 (by rw [hdn.out]; exact SlN.empty _ _ _ _ (fun ad e => by cases e; rfl) (by omega) (fun e => by cases e)))
                    clear hr hi2 hf2 hs2
                    go_wp2
                    go_roundw
                    case rel => rw [hdn.out] at HX; exact HX.out
                    case measure => simp [lenV]; omega
                · go_wp2_with fail
                  refine HPC.out.mono ?_
                  rintro e w2 (⟨hr, rfl, rfl⟩ | ⟨rfl, d1, S1, hr, hi2, hf2, hs2⟩)
                  · go_wp2
                    simp only [Exit.noGoto_ret]
                    go_ret
                    rw [HST.out hr]
                    exact ⟨rfl, Si, HIA.out _, hfr.out.alloc _, fun k hk => (hsi.out k hk).imp id (fun h => by omega)⟩
                  · have HX := Lib.hid (HNX.out d1 S1 w2 (o' + rest.length) (c' - rest.length) hr hi2 hf2 hs2 (by rw [hdn.out]; exact SlN.empty _ _ _ _ (fun ad e => by cases e; rfl) (by omega) (fun e => by cases e)))
                    clear hr hi2 hf2 hs2
                    go_wp2
                    go_roundw
                    case rel => rw [hdn.out] at HX; exact HX.out
                    case measure => simp [lenV]; omega
              · have hmr : m = 32 := by omega
                clear hmn hnl hm32
                subst hmr
                go_wp2_with fail
                refine HPC.out.mono ?_
                rintro e w2 (⟨hr, rfl, rfl⟩ | ⟨rfl, d1, S1, hr, hi2, hf2, hs2⟩)
                · go_wp2
                  simp only [Exit.noGoto_ret]
                  go_ret
                  rw [HST.out hr]
                  exact ⟨rfl, Si, HIA.out _, hfr.out.alloc _, fun k hk => (hsi.out k hk).imp id (fun h => by omega)⟩
                · have HX := Lib.hid (HNX.out d1 S1 w2 (o' + 32) (c' - 32) hr hi2 hf2 hs2 (by rw [List.length_drop]; exact SlN.drop hsl.out (by omega)))
                  rw [List.length_drop] at HX
                  clear hr hi2 hf2 hs2
                  go_wp2
                  go_roundw
                  case rel => exact HX.out
                  case measure => simp [lenV]; omega
  · have happ : d.append s bs = (d, 2) := by unfold Dk.append; rw [if_neg hm]
    have hm' : mayN s = false := by simpa using hm
    have HH := Lib.hid h
    have HM := Lib.hid hmay
    clear h hmay hat hvS hv
    go_enter Tryz.func17, Tryz.ntmps17
    go_wp2_with fail
    go_step3
    go_wp2_with fail
    refine (HM.out _).mono ?_
    rintro e w1 ⟨rfl, rfl⟩
    rw [hm']
    go_wp2
    simp only [Exit.noGoto_ret]
    go_ret
    rw [happ]
    exact ⟨rfl, S, HH.out.fr (T := fun _ => False) (((Fr.refl _ _).alloc _).alloc _) (fun _ _ h => h), ((Fr.refl _ _).alloc _).alloc _, fun k hk => .inl hk⟩
end Go.Proofs.YtbbplhpkhholeaaGreatDoor
