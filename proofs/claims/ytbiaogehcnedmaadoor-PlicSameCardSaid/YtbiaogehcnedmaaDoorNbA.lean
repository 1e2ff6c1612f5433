/-
  Numbers: bits of words.
-/
import Derived.Test.YtbiaogehcnedmaaDoorSxT
set_option linter.unusedVariables false
set_option linter.unusedSimpArgs false
namespace Go.SX
open Go
theorem wrap_u16 {b : Int} (h0 : 0 ≤ b) (h1 : b < 65536) : IntKind.u16.wrap b = b := by
  simp [IntKind.wrap, IntKind.bits, IntKind.signed]
  omega
theorem wrap_u32_mod (b : Int) : IntKind.u32.wrap b = b % 4294967296 := by simp [IntKind.wrap, IntKind.bits, IntKind.signed]
theorem wrap_u16_mod (b : Int) : IntKind.u16.wrap b = b % 65536 := by simp [IntKind.wrap, IntKind.bits, IntKind.signed]
/-- Kinds without a sign. -/
def uk (k : IntKind) : Bool := !k.signed
theorem wrap_uk {k : IntKind} (hk : uk k = true) (b : Int) : k.wrap b = b % 2 ^ k.bits := by
  simp only [uk, Bool.not_eq_true'] at hk
  simp [IntKind.wrap, hk]
theorem bv_nat {w n : Nat} (h : n < 2 ^ w) : (BitVec.ofInt w (n : Int)).toNat = n := by
  rw [BitVec.ofInt_natCast, BitVec.toNat_ofNat]
  exact Nat.mod_eq_of_lt h
theorem wrap_nat {k : IntKind} (hk : uk k = true) {n : Nat} (h : n < 2 ^ k.bits) : k.wrap (n : Int) = n := by
  rw [wrap_uk hk]
  exact Int.emod_eq_of_lt (by omega) (by exact_mod_cast h)
theorem iand_nat {k : IntKind} (hk : uk k = true) {a b : Nat} (ha : a < 2 ^ k.bits) (hb : b < 2 ^ k.bits) : iand k a b = ((a &&& b : Nat) : Int) := by
  unfold iand
  rw [BitVec.toNat_and, bv_nat ha, bv_nat hb, wrap_nat hk (Nat.and_lt_two_pow _ hb)]
theorem ior_nat {k : IntKind} (hk : uk k = true) {a b : Nat} (ha : a < 2 ^ k.bits) (hb : b < 2 ^ k.bits) : ior k a b = ((a ||| b : Nat) : Int) := by
  unfold ior
  rw [BitVec.toNat_or, bv_nat ha, bv_nat hb, wrap_nat hk (Nat.or_lt_two_pow ha hb)]
theorem ixor_nat {k : IntKind} (hk : uk k = true) {a b : Nat} (ha : a < 2 ^ k.bits) (hb : b < 2 ^ k.bits) : ixor k a b = ((a ^^^ b : Nat) : Int) := by
  unfold ixor
  rw [BitVec.toNat_xor, bv_nat ha, bv_nat hb, wrap_nat hk (Nat.xor_lt_two_pow ha hb)]
/-- The bits of the first that are none of the second. -/
def ndiff (a b : Nat) : Nat := a ^^^ (a &&& b)
theorem testBit_ndiff (a b i : Nat) : (ndiff a b).testBit i = (a.testBit i && !b.testBit i) := by
  unfold ndiff
  rw [Nat.testBit_xor, Nat.testBit_and]
  cases a.testBit i <;> cases b.testBit i <;> rfl
theorem ndiff_le (a b : Nat) {w : Nat} (h : a < 2 ^ w) : ndiff a b < 2 ^ w := Nat.xor_lt_two_pow h (Nat.lt_of_le_of_lt Nat.and_le_left h)
theorem iandNot_nat {k : IntKind} (hk : uk k = true) {a b : Nat} (ha : a < 2 ^ k.bits) (hb : b < 2 ^ k.bits) : iandNot k a b = ((ndiff a b : Nat) : Int) := by
  unfold iandNot
  have e : (BitVec.ofInt k.bits (a : Int) &&& ~~~ BitVec.ofInt k.bits (b : Int)).toNat = ndiff a b := by
    apply Nat.eq_of_testBit_eq
    intro i
    rw [testBit_ndiff, BitVec.testBit_toNat, BitVec.getLsbD_and, BitVec.getLsbD_not, ← BitVec.testBit_toNat, ← BitVec.testBit_toNat, bv_nat ha, bv_nat hb]
    by_cases hi : i < k.bits
    · simp [hi]
    · have : a.testBit i = false := Nat.testBit_lt_two_pow (Nat.lt_of_lt_of_le ha (Nat.pow_le_pow_right (by omega) (by omega)))
      simp [hi, this]
  rw [e, wrap_nat hk (ndiff_le a b ha)]
theorem ishl_nat {k : IntKind} (hk : uk k = true) {a i : Nat} (hi : i < k.bits) : ishl k a i = ((a * 2 ^ i % 2 ^ k.bits : Nat) : Int) := by
  unfold ishl
  have : min (i : Int).toNat k.bits = i := by simp; omega
  rw [this, wrap_uk hk]
  exact_mod_cast rfl
theorem ishl_ge {k : IntKind} (hk : uk k = true) {a i : Nat} (hi : k.bits ≤ i) : ishl k a i = 0 := by
  unfold ishl
  have : min (i : Int).toNat k.bits = k.bits := by simp; omega
  rw [this, wrap_uk hk]
  exact Int.mul_emod_left _ _
theorem ishr_nat {k : IntKind} {a i : Nat} (hi : i < k.bits) : ishr k a i = ((a / 2 ^ i : Nat) : Int) := by
  unfold ishr
  have : min (i : Int).toNat k.bits = i := by simp; omega
  rw [this, Int.fdiv_eq_ediv_of_nonneg _ (by exact Int.le_of_lt (Int.pow_pos (by omega)))]
  exact_mod_cast rfl
theorem ishl_one {k : IntKind} (hk : uk k = true) {i : Nat} (hi : i < k.bits) : ishl k 1 i = ((2 ^ i : Nat) : Int) := by
  have := ishl_nat hk (a := 1) hi
  rw [Nat.one_mul, Nat.mod_eq_of_lt (Nat.pow_lt_pow_right (by omega) hi)] at this
  exact_mod_cast this
theorem and_one_testBit (n i : Nat) : (n / 2 ^ i) &&& 1 = (n.testBit i).toNat := by
  rw [Nat.and_one_is_mod, ← Nat.shiftRight_eq_div_pow, Nat.testBit_eq_decide_div_mod_eq, Nat.shiftRight_eq_div_pow]
  rcases Nat.mod_two_eq_zero_or_one (n / 2 ^ i) with h | h <;> simp [h]
theorem testBit_pow (i j : Nat) : (2 ^ i).testBit j = decide (i = j) := Nat.testBit_two_pow
theorem lt_of_bits {n w : Nat} (h : ∀ i, w ≤ i → n.testBit i = false) : n < 2 ^ w := Nat.lt_pow_two_of_testBit n h
theorem bit_out {n w i : Nat} (h : n < 2 ^ w) (hi : w ≤ i) : n.testBit i = false := Nat.testBit_lt_two_pow (Nat.lt_of_lt_of_le h (Nat.pow_le_pow_right (by omega) hi))

/-! ### The lowest bit -/
theorem odd_part : ∀ (n : Nat), n ≠ 0 → ∃ k m, n = 2 ^ k * (2 * m + 1) := by
  intro n
  induction n using Nat.strongRecOn with
  | ind n ih =>
    intro h0
    rcases Nat.mod_two_eq_zero_or_one n with h | h
    · obtain ⟨k, m, e⟩ := ih (n / 2) (by omega) (by omega)
      refine ⟨k + 1, m, ?_⟩
      rw [Nat.pow_succ, Nat.mul_assoc, Nat.mul_comm 2, ← Nat.mul_assoc, ← e]
      omega
    · exact ⟨0, n / 2, by simp; omega⟩
theorem bits_odd (k m j : Nat) : (2 ^ k * (2 * m + 1)).testBit j = (decide (k ≤ j) && (decide (j = k) || m.testBit (j - k - 1))) := by
  rw [Nat.testBit_two_pow_mul]
  by_cases h : k ≤ j
  · obtain ⟨i, rfl⟩ := Nat.exists_eq_add_of_le h
    rw [Nat.add_sub_cancel_left]
    cases i with
    | zero => simp
    | succ i =>
      have : (2 * m + 1).testBit (i + 1) = m.testBit i := by
        rw [Nat.testBit_succ]
        congr 1; omega
      simp [this]
  · simp [h]
theorem drop_low (k m j : Nat) : ((2 ^ k * (2 * m + 1)) &&& (2 ^ k * (2 * m + 1) - 1)).testBit j = ((2 ^ k * (2 * m + 1)).testBit j && !decide (j = k)) := by
  rw [Nat.testBit_and, bits_odd]
  have e : 2 ^ k * (2 * m + 1) - 1 = 2 ^ k * (2 * m) + (2 ^ k - 1) := by
    have := Nat.two_pow_pos k
    rw [Nat.mul_add, Nat.mul_one]; omega
  rw [e, Nat.testBit_two_pow_mul_add _ (by have := Nat.two_pow_pos k; omega)]
  by_cases h : j < k
  · simp [h]; omega
  · obtain ⟨i, rfl⟩ := Nat.exists_eq_add_of_le (Nat.le_of_not_lt h)
    rw [if_neg h, Nat.add_sub_cancel_left]
    cases i with
    | zero => simp
    | succ i =>
      have : (2 * m).testBit (i + 1) = m.testBit i := by
        rw [Nat.testBit_succ]
        congr 1; omega
      simp [this]
theorem low_bit (w k m : Nat) (h : 2 ^ k * (2 * m + 1) < 2 ^ w) : (2 ^ k * (2 * m + 1)) &&& (2 ^ w - 2 ^ k * (2 * m + 1)) = 2 ^ k := by
  apply Nat.eq_of_testBit_eq
  intro j
  have hk : k < w := by
    have h1 : 2 ^ k * 1 ≤ 2 ^ k * (2 * m + 1) := Nat.mul_le_mul_left _ (by omega)
    exact (Nat.pow_lt_pow_iff_right (a := 2) (by omega)).1 (by omega)
  obtain ⟨v, rfl⟩ : ∃ v, w = k + (v + 1) := ⟨w - k - 1, by omega⟩
  have hm : m < 2 ^ v := by
    have h1 : 2 ^ k * (2 * m + 1) < 2 ^ k * (2 * 2 ^ v) := by
      have : 2 ^ (k + (v + 1)) = 2 ^ k * (2 * 2 ^ v) := by rw [Nat.pow_add, Nat.pow_succ, Nat.mul_comm (2 ^ v) 2]
      omega
    have := Nat.lt_of_mul_lt_mul_left h1
    omega
  have e : 2 ^ (k + (v + 1)) - 2 ^ k * (2 * m + 1) = 2 ^ k * (2 * (2 ^ v - (m + 1)) + 1) := by
    have : 2 ^ (k + (v + 1)) = 2 ^ k * (2 * 2 ^ v) := by rw [Nat.pow_add, Nat.pow_succ, Nat.mul_comm (2 ^ v) 2]
    rw [this, ← Nat.mul_sub]
    congr 1; omega
  rw [Nat.testBit_and, e, bits_odd, bits_odd, testBit_pow]
  by_cases h1 : k ≤ j
  · by_cases h2 : j = k
    · simp [h2]
    · have h3 : ¬ k = j := fun e => h2 e.symm
      rw [Nat.testBit_two_pow_sub_succ hm]
      simp only [h1, h2, h3, decide_true, decide_false, Bool.true_and, Bool.false_or]
      cases m.testBit (j - k - 1) <;> simp
  · have h3 : ¬ k = j := by omega
    simp [h1, h3]
/-- The numbers of the bits that are 1, upwards. -/
def ones (w : Nat) : List Nat := (List.range 64).filter fun i => w.testBit i
theorem ones_zero : ones 0 = [] := by decide
theorem ones_step {k m : Nat} (h : 2 ^ k * (2 * m + 1) < 2 ^ 64) : ones (2 ^ k * (2 * m + 1)) = k :: ones ((2 ^ k * (2 * m + 1)) &&& (2 ^ k * (2 * m + 1) - 1)) := by
  have hk : k < 64 := by
    have h1 : 2 ^ k * 1 ≤ 2 ^ k * (2 * m + 1) := Nat.mul_le_mul_left _ (by omega)
    exact (Nat.pow_lt_pow_iff_right (a := 2) (by omega)).1 (by omega)
  have e : List.range 64 = List.range' 0 k ++ k :: List.range' (k + 1) (63 - k) := by
    rw [List.range_eq_range']
    have h1 : List.range' 0 64 = List.range' 0 k ++ List.range' (0 + k) (64 - k) := by rw [List.range'_append_1]; congr 1; omega
    rw [h1, Nat.zero_add]
    have h2 : 64 - k = (63 - k) + 1 := by omega
    rw [h2, List.range'_succ]
  unfold ones
  rw [e]
  simp only [List.filter_append, List.filter_cons]
  have n1 : ∀ f : Nat → Bool, (∀ i, i < k → f i = false) → (List.range' 0 k).filter f = [] := by
    intro f hf
    rw [List.filter_eq_nil_iff]
    intro i hi
    simp at hi
    simp [hf i (by omega)]
  rw [n1 _ (fun i hi => by rw [bits_odd]; simp; omega), n1 _ (fun i hi => by rw [drop_low, bits_odd]; simp; omega)]
  have b1 : (2 ^ k * (2 * m + 1)).testBit k = true := by rw [bits_odd]; simp
  have b2 : ((2 ^ k * (2 * m + 1)) &&& (2 ^ k * (2 * m + 1) - 1)).testBit k = false := by rw [drop_low]; simp
  rw [b1, b2]
  simp only [if_true, List.nil_append, Bool.false_eq_true, if_false]
  congr 1
  apply List.filter_congr
  intro i hi
  simp at hi
  rw [drop_low]
  have : ¬ i = k := by omega
  simp [this]
def deBruijn : List Nat := [0, 1, 56, 2, 57, 49, 28, 3, 61, 58, 42, 50, 38, 29, 17, 4, 62, 47, 59, 36, 45, 43, 51, 22, 53, 39, 33, 30, 24, 18, 12, 5, 63, 55, 48, 27, 60, 41, 37, 16, 46, 35, 44, 21, 52, 32, 23, 11, 54, 26, 40, 15, 34, 20, 31, 10, 25, 14, 19, 9, 13, 8, 7, 6]
theorem deBruijn_ok : ∀ k, k < 64 → deBruijn.getD (2 ^ k * 285870213051353865 % 2 ^ 64 / 2 ^ 58) 0 = k := by decide +kernel
end Go.SX
