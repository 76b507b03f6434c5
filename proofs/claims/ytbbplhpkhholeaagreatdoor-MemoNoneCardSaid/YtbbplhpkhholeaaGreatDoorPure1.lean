/- Plain functions: the short form, the wide form, the hash, of numbers as lists of bytes. -/
import Derived.Test.YtbbplhpkhholeaaGreatDoorBase
import Derived.Laws.BitsAllLaws
import Derived.Laws.Bits64
set_option linter.unusedVariables false
set_option linter.unusedSimpArgs false
set_option maxRecDepth 20000
namespace Go.Proofs.YtbbplhpkhholeaaGreatDoor
open Go.RowKit

/-- A number of 64 bits. -/
def U64 (x : Int) : Prop := 0 ≤ x ∧ x < 18446744073709551616
theorem U64.lo {x : Int} (h : U64 x) : 0 ≤ x := h.1
theorem U64.hi {x : Int} (h : U64 x) : x < 18446744073709551616 := h.2
theorem U64.div {x : Int} (h : U64 x) {n : Int} (hn : 0 < n) : U64 (x / n) := ⟨Int.ediv_nonneg h.1 (by omega), Int.lt_of_le_of_lt (Int.ediv_le_self n h.1) h.2⟩
/-- The short form. -/
def uintN (x : Nat) : List Int := if x < 128 then [(x : Int)] else ((x % 128 + 128 : Nat) : Int) :: uintN (x / 128)
termination_by x
decreasing_by omega
def uintB (x : Int) : List Int := uintN x.toNat
theorem uintN_lt {x : Nat} (h : x < 128) : uintN x = [(x : Int)] := by rw [uintN]; simp [h]
theorem uintN_ge {x : Nat} (h : ¬ x < 128) : uintN x = ((x % 128 + 128 : Nat) : Int) :: uintN (x / 128) := by rw [uintN]; simp [h]
theorem uintB_lt {x : Int} (h0 : 0 ≤ x) (h : x < 128) : uintB x = [x] := by
  unfold uintB
  rw [uintN_lt (by omega)]
  congr 1; omega
theorem uintB_ge {x : Int} (h : 128 ≤ x) : uintB x = (x % 128 + 128) :: uintB (x / 128) := by
  unfold uintB
  rw [uintN_ge (by omega)]
  congr 1
  · omega
  · congr 1; omega
theorem uintN_len (x : Nat) : ∀ k, x < 128 ^ (k + 1) → 1 ≤ (uintN x).length ∧ (uintN x).length ≤ k + 1 := by
  intro k
  induction k generalizing x with
  | zero => intro h; rw [uintN_lt (by simpa using h)]; simp
  | succ k ih =>
    intro h
    by_cases hx : x < 128
    · rw [uintN_lt hx]; simp
    · rw [uintN_ge hx]
      have := ih (x / 128) (by rw [Nat.div_lt_iff_lt_mul (by decide)]; rw [Nat.pow_succ] at h; exact h)
      simp only [List.length_cons]; omega
theorem uintB_len {x : Int} (h : U64 x) : 1 ≤ (uintB x).length ∧ (uintB x).length ≤ 10 := uintN_len x.toNat 9 (by
  have : x.toNat < 18446744073709551616 := by have := h.1; have := h.2; omega
  exact Nat.lt_of_lt_of_le this (by decide))
theorem uintN_byts (x : Nat) : Byts (uintN x) := by
  induction x using uintN.induct with
  | case1 x h => rw [uintN_lt h]; intro y hy; simp at hy; omega
  | case2 x h ih =>
    rw [uintN_ge h]
    intro y hy
    rcases List.mem_cons.1 hy with rfl | hy
    · omega
    · exact ih y hy
theorem uintB_byts (x : Int) : Byts (uintB x) := uintN_byts _

theorem or128 : ∀ n : Nat, n < 256 → n ||| 128 = n % 128 + 128 := by decide +kernel
theorem bits_or128 {y : Int} (h : 0 ≤ y) : bits .or .u8 (y % 256) 128 = y % 128 + 128 := by
  rw [u8_or _ _ (by omega) (by omega) (by decide) (by decide), show (128 : Int).toNat = 128 from rfl, or128 _ (by omega)]
  omega
theorem u64_mask (x : Int) (hx : U64 x) (i : Nat) (hi : i ≤ 63) : bits .and .u64 x ((2 ^ i - 1 : Nat) : Int) = x % ((2 ^ i : Nat) : Int) := by
  have hp : 2 ^ i < 18446744073709551616 := Nat.lt_of_le_of_lt (Nat.pow_le_pow_right (by decide) hi) (by decide)
  rw [u64_and _ _ hx.1 hx.2 (by omega) (by omega), Int.toNat_natCast, Nat.and_two_pow_sub_one_eq_mod, Int.natCast_emod, Int.toNat_of_nonneg hx.1]
theorem and15 {x : Int} (hx : U64 x) : bits .and .u64 x 15 = x % 16 := u64_mask x hx 4 (by decide)
/-- The wide form: the lowest n bytes of x, the highest first. -/
def wordsB (x : Int) : Nat → List Int
  | 0 => []
  | n + 1 => x / 256 ^ n % 256 :: wordsB x n
def wordB (x : Int) : List Int := wordsB x 8
theorem wordsB_len (x : Int) (n : Nat) : (wordsB x n).length = n := by
  induction n with
  | zero => rfl
  | succ n ih => simp [wordsB, ih]
theorem wordB_len (x : Int) : (wordB x).length = 8 := wordsB_len x 8
theorem wordsB_byts (x : Int) (n : Nat) : Byts (wordsB x n) := by
  induction n with
  | zero => exact Byts.nil
  | succ n ih =>
    intro y hy
    rcases List.mem_cons.1 hy with rfl | hy
    · omega
    · exact ih y hy
theorem wordB_byts (x : Int) : Byts (wordB x) := wordsB_byts x 8

/-- The number whose short form begins the bytes, how many bytes it has, the error: from byte i on, x having been read. -/
def numF (i : Nat) (x : Int) : List Int → Int × Nat × Int
  | [] => (0, 0, 110)
  | c :: r => if (i = 9 ∧ 1 < c) ∨ (0 < i ∧ c = 0) then (0, 0, 8) else if c < 128 then (x + c % 128 * 128 ^ i, i + 1, 0) else numF (i + 1) (x + c % 128 * 128 ^ i) r
def numB (bs : List Int) : Int × Nat × Int := numF 0 0 bs
theorem numF_step (i : Nat) (x : Int) (bs : List Int) (h : i < bs.length) : numF i x (bs.drop i) = (if (i = 9 ∧ 1 < rdI bs i) ∨ (0 < i ∧ rdI bs i = 0) then (0, 0, 8) else if rdI bs i < 128 then (x + rdI bs i % 128 * 128 ^ i, i + 1, 0) else numF (i + 1) (x + rdI bs i % 128 * 128 ^ i) (bs.drop (i + 1))) := by
  rw [List.drop_eq_getElem_cons h, rdI_lt h]; rfl
theorem numF_end (bs : List Int) (x : Int) : numF bs.length x (bs.drop bs.length) = (0, 0, 110) := by rw [List.drop_length]; rfl
theorem pow128 (i : Nat) : (128 : Int) ^ i = 2 ^ (7 * i) := by rw [Int.pow_mul]; rfl
theorem pow128_pos (i : Nat) : (0 : Int) < 128 ^ i := Int.pow_pos (by decide)
theorem pow128_mono {i j : Nat} (h : i ≤ j) : (128 : Int) ^ i ≤ 128 ^ j := by
  have := Nat.pow_le_pow_right (n := 128) (by decide) h
  exact_mod_cast this
theorem u64_or_add (x c : Int) (n : Nat) (hx0 : 0 ≤ x) (hx : x < 2 ^ n) (hc : 0 ≤ c) (hU : x + c * 2 ^ n < 18446744073709551616) : bits .or .u64 x (c * 2 ^ n) = x + c * 2 ^ n := by
  have hp : (0 : Int) < 2 ^ n := Int.pow_pos (by decide)
  have hcn : 0 ≤ c * 2 ^ n := Int.mul_nonneg hc (Int.le_of_lt hp)
  obtain ⟨a, rfl⟩ := Int.eq_ofNat_of_zero_le hx0
  obtain ⟨b, rfl⟩ := Int.eq_ofNat_of_zero_le hc
  have ha : a < 2 ^ n := by exact_mod_cast hx
  have e : ((b : Int) * 2 ^ n) = ((2 ^ n * b : Nat) : Int) := by rw [Int.natCast_mul, Int.mul_comm]; simp
  rw [e] at hU hcn ⊢
  rw [u64_or_nat a _ (by omega) (by omega), Nat.or_comm, ← Nat.two_pow_add_eq_or_of_lt ha b]
  omega
/-- What number's loop keeps. -/
def NumK (i : Nat) (x : Int) : Prop := 0 ≤ x ∧ x < 128 ^ i ∧ i ≤ 9
theorem NumK.step {i : Nat} {x c : Int} (h : NumK i x) (h9 : ¬ i = 9) (hc : 0 ≤ c) : NumK (i + 1) (x + c % 128 * 128 ^ i) := by
  obtain ⟨h0, h1, h2⟩ := h
  have hp := pow128_pos i
  have hm : 0 ≤ c % 128 ∧ c % 128 ≤ 127 := by omega
  have h3 : c % 128 * 128 ^ i ≤ 127 * 128 ^ i := Int.mul_le_mul_of_nonneg_right hm.2 (Int.le_of_lt hp)
  have h4 : 0 ≤ c % 128 * 128 ^ i := Int.mul_nonneg hm.1 (Int.le_of_lt hp)
  refine ⟨by omega, ?_, by omega⟩
  rw [Int.pow_succ]; omega
theorem NumK.lt {i : Nat} {x c : Int} (h : NumK i x) (hc0 : 0 ≤ c) (h9 : i = 9 → c ≤ 1) : 0 ≤ c % 128 * 128 ^ i ∧ x + c % 128 * 128 ^ i < 18446744073709551616 := by
  by_cases e : i = 9
  · have := h9 e
    subst e
    obtain ⟨h0, h1, h2⟩ := h
    have : c % 128 ≤ 1 := by omega
    have e9 : (128 : Int) ^ 9 = 9223372036854775808 := by decide
    rw [e9] at h1 ⊢
    omega
  · have h1 := h.step e hc0
    have h2 : (128 : Int) ^ (i + 1) ≤ 128 ^ 9 := pow128_mono (by have := h.2.2; omega)
    have e9 : (128 : Int) ^ 9 = 9223372036854775808 := by decide
    obtain ⟨a, b, _⟩ := h1
    have hp := pow128_pos i
    exact ⟨Int.mul_nonneg (by omega) (Int.le_of_lt hp), by omega⟩
theorem NumK.or {i : Nat} {x c : Int} (h : NumK i x) (hc0 : 0 ≤ c) (h9 : i = 9 → c ≤ 1) : bits .or .u64 x (IntKind.u64.wrap (c % 128 * 2 ^ (7 * i))) = x + c % 128 * 128 ^ i := by
  have hl := h.lt hc0 h9
  rw [pow128] at hl ⊢
  rw [IntKind.wrap_u64, Int.emod_eq_of_lt hl.1 (by have := h.1; omega)]
  exact u64_or_add x _ _ h.1 (by rw [← pow128]; exact h.2.1) (by omega) hl.2
theorem and127 : ∀ n : Nat, n < 256 → n &&& 127 = n % 128 := by decide +kernel
theorem NumK.or' {i : Nat} {x c : Int} (h : NumK i x) (hc : 0 ≤ c ∧ c ≤ 255) (h9 : i = 9 → c ≤ 1) :
    bits .or .u64 x (IntKind.u64.wrap (IntKind.u64.wrap (bits .and .u8 c 127) * 2 ^ (7 * i))) = x + c % 128 * 128 ^ i := by
  have e : bits .and .u8 c 127 = c % 128 := by
    rw [u8_and _ _ hc.1 (by omega) (by decide) (by decide), show (127 : Int).toNat = 127 from rfl, and127 _ (by omega)]
    omega
  rw [e, IntKind.wrap_u64 (c % 128), Int.emod_eq_of_lt (by omega) (by omega)]
  exact h.or hc.1 h9
theorem numB_range (bs : List Int) (hb : Byts bs) : U64 (numB bs).1 ∧ (numB bs).2.1 ≤ bs.length ∧ (numB bs).2.1 ≤ 10 := by
  have key : ∀ (l : List Int) (i : Nat) (x : Int), NumK i x → Byts l → U64 (numF i x l).1 ∧ (numF i x l).2.1 ≤ i + l.length ∧ (numF i x l).2.1 ≤ 10 := by
    intro l
    induction l with
    | nil => intro i x h _; exact ⟨by unfold numF U64; omega, by simp [numF], by simp [numF]⟩
    | cons c r ih =>
      intro i x h hl
      have hc := hl c (List.mem_cons_self)
      have hr : Byts r := fun y hy => hl y (List.mem_cons_of_mem _ hy)
      unfold numF
      split
      · exact ⟨by unfold U64; omega, by simp, by simp⟩
      · rename_i hn
        have h9 : i = 9 → c ≤ 1 := fun e => by omega
        split
        · have := h.lt hc.1 h9
          have := h.1
          have := h.2.2
          refine ⟨⟨?_, ?_⟩, ?_, ?_⟩ <;> simp <;> omega
        · rename_i h128
          have := ih (i + 1) _ (h.step (by intro e; have := h9 e; omega) hc.1) hr
          refine ⟨this.1, ?_, this.2.2⟩
          have h2 := this.2.1
          simp only [List.length_cons]
          omega
  have := key bs 0 0 ⟨by omega, by decide, by omega⟩ hb
  simp only [Nat.zero_add] at this
  exact this
/-- The wide form, read. -/
def wordG (x : Int) : List Int → Int
  | [] => x
  | c :: r => wordG (x * 256 + c) r
def wordV (bs : List Int) : Int := wordG 0 bs
theorem wordG_step (x : Int) (bs : List Int) (i : Nat) (h : i < bs.length) : wordG x (bs.drop i) = wordG (x * 256 + rdI bs i) (bs.drop (i + 1)) := by
  rw [List.drop_eq_getElem_cons h, rdI_lt h]; rfl
/-- What Word's loop keeps. -/
def WordK (i : Nat) (x : Int) : Prop := 0 ≤ x ∧ x < 256 ^ i ∧ i ≤ 8
theorem pow256_mono {i j : Nat} (h : i ≤ j) : (256 : Int) ^ i ≤ 256 ^ j := by
  have := Nat.pow_le_pow_right (n := 256) (by decide) h
  rw [show (256 : Int) = ((256 : Nat) : Int) from rfl, ← Int.natCast_pow, ← Int.natCast_pow]
  exact Int.ofNat_le.2 this
theorem WordK.step {i : Nat} {x c : Int} (h : WordK i x) (hi : i < 8) (hc : 0 ≤ c ∧ c ≤ 255) : WordK (i + 1) (x * 256 + c) := by
  obtain ⟨h0, h1, h2⟩ := h
  refine ⟨by omega, ?_, by omega⟩
  rw [Int.pow_succ]; omega
theorem WordK.U64 {i : Nat} {x : Int} (h : WordK i x) : U64 x := by
  obtain ⟨h0, h1, h2⟩ := h
  have := pow256_mono h2
  have e : (256 : Int) ^ 8 = 18446744073709551616 := by decide
  rw [e] at this
  exact ⟨h0, by omega⟩
theorem WordK.or {i : Nat} {x c : Int} (h : WordK i x) (hi : i < 8) (hc : 0 ≤ c ∧ c ≤ 255) : bits .or .u64 (IntKind.u64.wrap (x * 256)) (IntKind.u64.wrap c) = x * 256 + c := by
  have hU := (h.step hi hc).U64
  obtain ⟨h0, h1, h2⟩ := h
  rw [IntKind.wrap_u64 c, IntKind.wrap_u64, Int.emod_eq_of_lt hc.1 (by omega), Int.emod_eq_of_lt (by omega) (by have := hU.2; omega)]
  obtain ⟨a, rfl⟩ := Int.eq_ofNat_of_zero_le h0
  obtain ⟨b, rfl⟩ := Int.eq_ofNat_of_zero_le hc.1
  have e : ((a : Int) * 256) = ((2 ^ 8 * a : Nat) : Int) := by rw [Int.natCast_mul, Int.mul_comm]; rfl
  have hU2 := hU.2
  rw [e] at hU2 ⊢
  rw [u64_or_nat _ _ (by omega) (by omega), ← Nat.two_pow_add_eq_or_of_lt (by omega) a]
  omega
theorem wordG_range (bs : List Int) : ∀ (i : Nat) (x : Int), WordK i x → i + bs.length ≤ 8 → Byts bs → U64 (wordG x bs) := by
  induction bs with
  | nil => intro i x h _ _; exact h.U64
  | cons c r ih => intro i x h hl hb; exact ih (i + 1) _ (h.step (by simp at hl; omega) (hb c (List.mem_cons_self))) (by simp at hl; omega) (fun y hy => hb y (List.mem_cons_of_mem _ hy))
theorem wordV_range {bs : List Int} (h : bs.length ≤ 8) (hb : Byts bs) : U64 (wordV bs) := wordG_range bs 0 0 ⟨by omega, by decide, by omega⟩ (by omega) hb
/-- The hash. -/
def hashS (h x : Int) : Int := IntKind.u64.wrap (bits .xor .u64 h x * 1099511628211)
def hashF (h : Int) : List Int → Int
  | [] => h
  | b :: r => hashF (hashS h b) r
def hashB (bs : List Int) : Int := hashF 14695981039346656037 bs
theorem hashF_step (h : Int) (bs : List Int) (k : Nat) (hk : k < bs.length) : hashF h (bs.drop k) = hashF (hashS h (rdI bs k)) (bs.drop (k+1)) := by
  rw [List.drop_eq_getElem_cons hk]; simp [hashF, rdI, hk]
theorem wrap_u64 (x : Int) : U64 (IntKind.u64.wrap x) := by
  unfold U64
  simp only [IntKind.wrap, IntKind.bits, IntKind.signed, Bool.false_and, Bool.false_eq_true, if_false]
  omega
theorem hashF_range (bs : List Int) : ∀ h, U64 h → U64 (hashF h bs) := by
  induction bs with
  | nil => intro h h0; exact h0
  | cons b r ih => intro h _; exact ih _ (wrap_u64 _)
theorem hashB_range (bs : List Int) : U64 (hashB bs) := hashF_range bs _ (by unfold U64; decide)
end Go.Proofs.YtbbplhpkhholeaaGreatDoor
