/-
  Numbers; calls without regions.
-/
import Derived.Test.YtbiaogehcnedmaaDoorSxQ
set_option linter.unusedVariables false
set_option linter.unusedSimpArgs false
namespace Go.SX
open Go
theorem ishr_u64 {b i : Int} (h0 : 0 ≤ b) (h1 : i < 64) (h2 : 0 ≤ i) : ishr .u64 b i = b / 2 ^ i.toNat := by
  unfold ishr
  have : (min i.toNat IntKind.u64.bits) = i.toNat := by have : IntKind.u64.bits = 64 := rfl; omega
  rw [this, Int.fdiv_eq_ediv_of_nonneg _ (by exact Int.le_of_lt (Int.pow_pos (by omega)))]
theorem wrap_u64 {b : Int} (h0 : 0 ≤ b) (h1 : b < 18446744073709551616) : IntKind.u64.wrap b = b := by
  simp [IntKind.wrap, IntKind.bits, IntKind.signed]
  omega
theorem wrap_u8 {b : Int} (h0 : 0 ≤ b) (h1 : b < 256) : IntKind.u8.wrap b = b := by
  simp [IntKind.wrap, IntKind.bits, IntKind.signed]
  omega
theorem iand_one {b : Int} (h0 : 0 ≤ b) (h1 : b < 18446744073709551616) : iand .u64 b 1 = b % 2 := by
  unfold iand
  obtain ⟨n, rfl⟩ := Int.eq_ofNat_of_zero_le h0
  have : (BitVec.ofInt IntKind.u64.bits (n : Int) &&& BitVec.ofInt IntKind.u64.bits 1).toNat = n % 2 := by
    have e1 : (BitVec.ofInt IntKind.u64.bits (n : Int)).toNat = n := by
      show (BitVec.ofInt 64 (n : Int)).toNat = n
      simp; omega
    have e2 : (BitVec.ofInt IntKind.u64.bits 1).toNat = 1 := by decide
    rw [BitVec.toNat_and, e1, e2, Nat.and_one_is_mod]
  rw [this, wrap_u64 (by omega) (by omega)]
  omega
theorem wrap_i64 {b : Int} (h0 : -9223372036854775808 ≤ b) (h1 : b < 9223372036854775808) : IntKind.i64.wrap b = b := by
  simp [IntKind.wrap, IntKind.bits, IntKind.signed]
  omega
theorem wrap_u32 {b : Int} (h0 : 0 ≤ b) (h1 : b < 4294967296) : IntKind.u32.wrap b = b := by
  simp [IntKind.wrap, IntKind.bits, IntKind.signed]
  omega
theorem wrap_u8_mod (b : Int) : IntKind.u8.wrap b = b % 256 := by
  simp [IntKind.wrap, IntKind.bits, IntKind.signed]
theorem wrap_u64_mod (b : Int) : IntKind.u64.wrap b = b % 18446744073709551616 := by
  simp [IntKind.wrap, IntKind.bits, IntKind.signed]
theorem wrap_u8_lo (b : Int) : 0 ≤ IntKind.u8.wrap b ∧ IntKind.u8.wrap b < 256 := by rw [wrap_u8_mod]; omega
theorem iand_u8 (a b : Int) : 0 ≤ iand .u8 a b ∧ iand .u8 a b < 256 := wrap_u8_lo _
theorem ior_u8 (a b : Int) : 0 ≤ ior .u8 a b ∧ ior .u8 a b < 256 := wrap_u8_lo _
theorem setMany_nil (H : List SB) (l : List SB) : setMany H [] l = H := by cases l <;> rfl
theorem getmid {p r : List Value} {v : Value} : (p ++ v :: r)[p.length]? = some v := by simp
/-- A callee that is handed no region, and gives a value without one. -/
theorem call_leaf {X : Cx} {P : Program} {f : FuncId} {vs : List Value} {H : List SB} {K : Value → List SB → Prop} {g : Tg K} {r : Value} {GL : List (Nat × List Value)} (hX : X.GL = GL) (h : SX.Spec P GL f 0 vs [] (fun v H' => v = r ∧ H' = [])) (hr : leaf r = true) (hv : leafL vs = true)
    (hB : H.length < BAD) (hk : K r H) : CallS X P f vs H K g := by
  subst hX
  refine call_of_spec h [] (by simp) (by simp) hB (Nat.zero_le _) (by simp [selH]) (ridL_leaf vs hv).symm ?_
  rintro v H' ⟨rfl, rfl⟩ _
  exact ⟨by simpa using hB, by rw [rid_leaf _ hr]; simpa [merge, setMany, deads] using hk⟩
end Go.SX
