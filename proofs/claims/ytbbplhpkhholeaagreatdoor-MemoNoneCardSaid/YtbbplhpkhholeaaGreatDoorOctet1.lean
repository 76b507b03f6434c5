/- The walks of package octet's writers. -/
import Derived.Test.YtbbplhpkhholeaaGreatDoorBase
import Derived.Test.YtbbplhpkhholeaaGreatDoorPure1
import Derived.Lib.AppendStr
set_option linter.unusedVariables false
set_option linter.unusedSimpArgs false
set_option maxRecDepth 20000
namespace Go.Proofs.YtbbplhpkhholeaaGreatDoor
open Go.RowKit

theorem infoU8 : (Tryz.prog.info? 5).map (fun i => (i.zero, i.size, i.bytes)) = some (some (.int .u8 0), 1, 1) := by kernel_rfl
/-- A new row of bytes is handed back; nothing that was there has turned. -/
def RetB (w : World) (xs : List Int) (en : Ending) (w' : World) : Prop := ∃ v, en = .returned v ∧ w'.ownsRow w.heap.size 5 1 v xs.length (numsV .u8 xs) ∧ Below w.heap.size w w'

/-- append of bytes onto an owned row. -/
theorem wp_appB {ops : Array Oper} {rest : List Oper} {o : Oper} {a : Act} {Q : Exit → Act → World → Prop} {w : World} (hgd : o.guard = none) (s x : Operand)
    (ho : o.op = .call { callee := .builtin .append, args := #[s, x], argTypes := #[25, 25] })
    {base n m : Nat} {v xv : Value} {xs news : List Value} (hs : a.eval s = v) (hx : a.eval x = xv) (hown : w.ownsRow base 5 1 v n xs) (hsrc : Sl w 1 xv m news)
    (hbytes : n + m ≤ 140737488355328) (hbase : base ≤ w.heap.size)
    (h : ∀ v' w', Hid (w'.ownsRow base 5 1 v' (n + m) (xs ++ news)) → Hid (w.grownBy w' v.ownBlock) → Hid (v'.ownBlock = v.ownBlock ∨ v'.ownBlock = some w.heap.size) → wpList Tryz.prog ops Q rest (a.put o.dst v') w') :
    wpList Tryz.prog ops Q (o :: rest) a w :=
  wpList_app hgd s x 25 5 _ 1 1 ho Tryz.underlying25 infoU8 rfl (by decide) (by decide) hs hx hown hsrc (by omega) hbase (fun v' w' a b c => h v' w' (Lib.hid a) (Lib.hid b) (Lib.hid c))

theorem clone_nil (w : World) : Calls Tryz.prog 49 #[.slice none 0 0] w fun en w' => en = .returned (.slice none 0 0) ∧ w = w' := by
  have hn := fun w => Lib.run_eql_slice_nil (P := Tryz.prog) (t := 25) (a := none) (n := 0) (c := 0) (w := w)
  go_enter Tryz.func49, Tryz.ntmps49
  go_wp2
  go_ret
  exact ⟨rfl, rfl⟩
theorem clone_some (w : World) (ad : Addr) (c : Nat) (xs : List Int) (h : SlN w .u8 (.slice (some ad) xs.length c) xs) (hl : xs.length ≤ 140737488355328) :
    Calls Tryz.prog 49 #[.slice (some ad) xs.length c] w (RetB w xs) := by
  have hn := fun w => Lib.run_eql_slice_nil (P := Tryz.prog) w 25 5 (some ad) xs.length c 0 0 Tryz.underlying25
  have ho := World.ownsRow_made w (base := w.heap.size) (e := 5) (size := 1) #[] 0 (Nat.le_refl _) (by simp [maxLen]) rfl
  have hs := Sl.alloc h (.cells #[] 5)
  have HO := Lib.hid ho
  have HS := Lib.hid hs
  clear ho hs h
  go_enter Tryz.func49, Tryz.ntmps49
  go_wp2_with (at_builtin; refine wpList_app rfl _ _ 25 5 _ 1 1 rfl Tryz.underlying25 infoU8 rfl (by decide) (by decide) rfl rfl HO.out HS.out ?_ ?_ ?_)
  · simpa using hl
  · simp
  · intro v' w1 hown hg _
    have HO1 := Lib.hid hown
    have HG := Lib.hid hg
    clear hown hg
    go_wp2
    go_ret
    refine ⟨v', rfl, by simpa using HO1.out, ((Below.refl _ w).alloc (Nat.le_refl _) _).grown HG.out (by simp) (fun k e => ?_)⟩
    simp [Value.ownBlock] at e
    omega
/-- slices.Clone of bytes. -/
theorem clone_any (w : World) (v : Value) (xs : List Int) (h : SlN w .u8 v xs) (hl : xs.length ≤ 140737488355328) : Calls Tryz.prog 49 #[v] w (RetB w xs) := by
  obtain ⟨A, c, rfl, h1, h2, h3⟩ := h.form
  cases A with
  | some ad => exact clone_some w ad c xs h hl
  | none =>
    have hx : xs = [] := by
      cases xs with
      | nil => rfl
      | cons x r => obtain ⟨b, off, e, _⟩ := h3 0 (by simp); cases e
    subst hx
    obtain ⟨A', c', e, _, _, _, hc, _⟩ := h
    cases e
    obtain rfl := hc rfl
    exact (clone_nil w).mono fun e w' ⟨he, hw⟩ => by subst hw; exact ⟨_, he, World.ownsRow_nil _ _ _ _, Below.refl _ _⟩

set_option maxRecDepth 100000 in
set_option maxHeartbeats 400000 in
theorem putUint_any (w : World) (v : Value) (xs : List Int) (x : Int) (h : SlN w .u8 v xs) (hl : xs.length ≤ 70368744177664) (hx : U64 x) :
    Calls Tryz.prog 78 #[v, .int .u64 x] w (RetB w (xs ++ uintB x)) := by
  go_enter Tryz.func78, Tryz.ntmps78
  go_wp2_with fail
  refine (clone_any w v xs h (by omega)).mono ?_
  rintro e w1 ⟨v1, rfl, hown, hb⟩
  have HO := Lib.hid hown
  have HB := Lib.hid hb
  clear hown hb h
  go_wp2_with fail
  go_loopw [5, 1] (fun t5 t1 wr => ∃ (pre : List Int) (y : Int), t1 = .int .u64 y ∧ 0 ≤ y ∧ U64 y ∧ Hid (pre ++ uintB y = xs ++ uintB x) ∧ Hid (wr.ownsRow w.heap.size 5 1 t5 pre.length (numsV .u8 pre)) ∧ Hid (Below w.heap.size w wr)) (fun _ t1 _ => (intOf t1).toNat)
  case atStart => exact ⟨xs, x, rfl, hx.1, hx, Lib.hid rfl, HO, HB⟩
  case round =>
    obtain ⟨pre, y, rfl, hy0, hy1, hE, hO, hB⟩ := hrel
    have hlen : pre.length ≤ 70368744177674 := by
      have h1 := congrArg List.length hE.out
      have h2 := uintB_len hx
      simp only [List.length_append] at h1
      omega
    by_cases hc : 128 ≤ y
    · go_wp2_with (at_builtin; refine wp_appB rfl _ _ rfl rfl rfl (hO.out.alloc _) (SlN.lit1 _ _ _ _) ?_ ?_ ?_)
      · (try simp); omega
      · have := hB.out.size; (try simp); omega
      · intro v' w' hO' hG hN
        go_wp2
        go_roundw
        case rel =>
          refine ⟨pre ++ [y % 128 + 128], y / 128, rfl, by omega, hy1.div (by decide), Lib.hid ?_, ?_, below_app _ hO hB (hB.out.size) hG⟩
          · rw [List.append_assoc, ← hE.out, uintB_ge hc]; rfl
          · rw [bits_or128 hy0] at hO'; exact own_nums hO' rfl rfl
        case measure => simp [intOf]; omega
    · go_wp2_with (at_builtin; refine wp_appB rfl _ _ rfl rfl rfl (hO.out.alloc _) (SlN.lit1 _ _ _ _) ?_ ?_ ?_)
      · (try simp); omega
      · have := hB.out.size; (try simp); omega
      · intro v' w' hO' hG hN
        go_wp2
        go_ret
        refine ⟨v', rfl, ?_, (below_app _ hO hB hB.out.size hG).out⟩
        rw [← hE.out, uintB_lt hy0 (by omega)]
        exact (own_nums hO' rfl rfl).out
theorem shr_word (x : Int) (n : Nat) : x / 2 ^ (8 * n) % 256 = x / 256 ^ n % 256 := by rw [Int.pow_mul]; rfl

set_option maxRecDepth 100000 in
set_option maxHeartbeats 400000 in
theorem putWord_any (w : World) (v : Value) (xs : List Int) (x : Int) (h : SlN w .u8 v xs) (hl : xs.length ≤ 70368744177664) (hx : U64 x) :
    Calls Tryz.prog 80 #[v, .int .u64 x] w (RetB w (xs ++ wordB x)) := by
  have h0 := hx.lo
  go_enter Tryz.func80, Tryz.ntmps80
  go_wp2_with fail
  refine (clone_any w v xs h (by omega)).mono ?_
  rintro e w1 ⟨v1, rfl, hown, hb⟩
  have HO := Lib.hid hown
  have HB := Lib.hid hb
  clear hown hb h
  go_wp2_with fail
  go_loopw [5, 6] (fun t5 t6 wr => ∃ (pre : List Int) (k : Nat), k ≤ 8 ∧ t6 = .int .i64 (8 * (k : Int) - 8) ∧ Hid (pre ++ wordsB x k = xs ++ wordB x) ∧ pre.length + k ≤ xs.length + 8 ∧ Hid (wr.ownsRow w.heap.size 5 1 t5 pre.length (numsV .u8 pre)) ∧ Hid (Below w.heap.size w wr)) (fun _ t6 _ => (intOf t6 + 8).toNat)
  case atStart => exact ⟨xs, 8, by omega, rfl, Lib.hid rfl, by omega, HO, HB⟩
  case round =>
    obtain ⟨pre, k, hk, rfl, hE, hp, hO, hB⟩ := hrel
    by_cases hc : 1 ≤ k
    · go_wp2_with (at_builtin; refine wp_appB rfl _ _ rfl rfl rfl (hO.out.alloc _) (SlN.lit1 _ _ _ _) ?_ ?_ ?_)
      · (try simp); omega
      · have := hB.out.size; (try simp); omega
      · intro v' w' hO' hG hN
        go_wp2
        go_roundw
        case rel =>
          refine ⟨pre ++ [x / 256 ^ (k - 1) % 256], k - 1, by omega, ?_, Lib.hid ?_, by simp; omega, ?_, below_app _ hO hB hB.out.size hG⟩
          · congr 1; omega
          · rw [List.append_assoc, ← hE.out]
            obtain ⟨j, rfl⟩ : ∃ j, k = j + 1 := ⟨k - 1, by omega⟩
            rfl
          · rw [show 8 * k - 8 = 8 * (k - 1) from by omega, shr_word] at hO'
            exact own_nums hO' rfl rfl
        case measure => simp [intOf]; omega
    · obtain rfl : k = 0 := by omega
      go_wp2_with fail
      go_ret
      have := hE.out
      simp only [wordsB, List.append_nil] at this
      subst this
      exact ⟨_, rfl, hO.out, hB.out⟩

set_option maxHeartbeats 400000 in
theorem hash_any (w : World) (v : Value) (bs : List Int) (hR : SlN w .u8 v bs) (hb : Byts bs) (hl : bs.length ≤ 140737488355328) :
    Calls Tryz.prog 81 #[v] w fun en w' => en = .returned (.int .u64 (hashB bs)) ∧ w = w' := by
  obtain ⟨A, c, rfl, hlc, hc, hat⟩ := hR.form
  go_enter Tryz.func81, Tryz.ntmps81
  go_wp2
  go_loop [5, 3, 8] (fun t5 t3 t8 => ∃ (k : Nat) (h : Int), k ≤ bs.length ∧ t8 = .int .i64 k ∧ t3 = .int .u64 h ∧ Hid (hashF h (bs.drop k) = hashB bs)) (fun _ _ i => bs.length - (intOf i).toNat)
  case atStart => exact ⟨0, _, Nat.zero_le _, rfl, rfl, Lib.hid rfl⟩
  case round =>
    obtain ⟨k, h, hk, rfl, rfl, hh⟩ := hrel
    by_cases hlt : k < bs.length
    · obtain ⟨b, off, rfl, hc⟩ := hat k hlt
      have hb' := hb.at_ k
      go_wp2
      go_round
      case rel => exact ⟨k + 1, _, by omega, by go_num, rfl, Lib.hid (by rw [← hh.out, hashF_step h bs k hlt]; rfl)⟩
      case measure => simp [intOf]; omega
    · go_wp2
      go_ret
      have hkl : k = bs.length := by omega
      have := hh.out
      rw [hkl, List.drop_length] at this
      simp only [hashF] at this
      exact ⟨by rw [this]; rfl, rfl⟩

theorem putText_any (w : World) (v : Value) (xs : List Int) (s : ByteArray) (h : SlN w .u8 v xs) (hl : xs.length ≤ 1099511627776) (hs : s.size ≤ 17592186044416) :
    Calls Tryz.prog 190 #[v, .string s] w (RetB w (xs ++ (uintB s.size ++ strN s))) := by
  have hU : U64 s.size := ⟨by omega, by omega⟩
  have hlen := uintB_len hU
  go_enter Tryz.func190, Tryz.ntmps190
  go_wp2_with fail
  refine (putUint_any w v xs s.size h (by omega) hU).mono ?_
  rintro e w1 ⟨v1, rfl, hown, hb⟩
  have HO := Lib.hid hown
  have HB := Lib.hid hb
  clear hown hb h
  obtain ⟨i, hi, hzz⟩ := Option.map_eq_some_iff.1 infoU8
  simp only [Prod.mk.injEq] at hzz
  obtain ⟨hz0, hz1, hz2⟩ := hzz
  have HL : Hid ((xs ++ uintB s.size).length ≤ 1099511627786) := Lib.hid (by simp; omega)
  clear hlen
  go_wp2_with (at_builtin; refine Lib.wpList_append_own_string w1 rfl _ _ 25 9 rfl w.heap.size 5 i Tryz.underlying25 Tryz.underlying9 hi hz0 hz1 hz2 _ _ _ rfl HO.out s rfl ?_ ?_ ?_ ?_)
  · have := HL.out; simp only [maxLen]; omega
  · have := HL.out; omega
  · exact HB.out.size
  · intro v' w' hO hG _
    have HO' := Lib.hid hO
    have HG' := Lib.hid hG
    clear hO hG
    go_wp2
    go_ret
    rw [strN_cells] at HO'
    have hO := (own_nums HO' (by simp) (strN_length s)).out
    rw [List.append_assoc] at hO
    exact ⟨v', rfl, hO, (below_app' HO HB HB.out.size HG').out⟩

/-- A record's bytes in the file. -/
def recB (p : List Int) : List Int := (uintB p.length ++ p) ++ wordB (hashB p)
end Go.Proofs.YtbbplhpkhholeaaGreatDoor
