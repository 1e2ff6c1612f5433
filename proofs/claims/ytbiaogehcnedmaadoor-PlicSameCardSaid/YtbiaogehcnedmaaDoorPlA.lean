/-
  Bits of words: Bit, TrailingZeros64, Ones.
-/
import Derived.Test.YtbiaogehcnedmaaDoorIcP
import Derived.Test.YtbiaogehcnedmaaDoorNbA
set_option linter.unusedVariables false
set_option linter.unusedSimpArgs false
set_option maxRecDepth 100000
namespace Go.Proofs.YtbiaogehcnedmaaDoor
open Go Go.SX
theorem bit32_spec (GL : List (Nat × List Value)) (n : Nat) (i : Int) (hn : n < 2 ^ 32) : SX.Spec Tryd.prog GL 39 0 [.int .u32 n, .int .i64 i] [] (fun v H => v = .bool (decide (0 ≤ i ∧ i < 64) && n.testBit i.toNat) ∧ H = []) := by
  refine spec_of_ev (fn := Tryd.f39) (by kernel_rfl) bits_Bit_uint32.ok bits_Bit_uint32.rok (Nat.le_of_ble_eq_true rfl) fun X hX hXn => ?_
  unfold bits_Bit_uint32.ic bits_Bit_uint32.rv
  by_cases h0 : 0 ≤ i
  · obtain ⟨k, rfl⟩ := Int.eq_ofNat_of_zero_le h0
    by_cases h1 : k < 64
    · have e1 : IntKind.u64.wrap (n : Int) = n := wrap_nat rfl (Nat.lt_trans hn (by decide))
      have e2 : ishr .u64 (n : Int) (k : Int) = ((n / 2 ^ k : Nat) : Int) := ishr_nat h1
      have e3 : iand .u64 ((n / 2 ^ k : Nat) : Int) 1 = (((n / 2 ^ k) &&& 1 : Nat) : Int) := iand_nat (b := 1) rfl (Nat.lt_of_le_of_lt (Nat.div_le_self _ _) (Nat.lt_trans hn (by decide))) (by decide)
      have d : ((k : Int) < 64) = True := by simp; omega
      have d0 : (0 ≤ (k : Int)) = True := by simp
      simp -implicitDefEqProofs -dsimp only [go_sem, reduceIte, Nat.reduceEqDiff, Nat.reduceAdd, Nat.reduceMul, Nat.reduceSub, Nat.reduceLT, Nat.reduceLeDiff, Nat.reduceBEq, Int.reduceLE, Int.reduceLT, Int.reduceEq, Int.reduceToNat, Int.reduceAdd, Int.reduceMul, Int.reduceSub, Int.reduceNeg, reduceCtorEq, if_true, if_false, hX, d, d0, e1, e2, e3, and_one_testBit]
      cases n.testBit k <;> simp
    · have d : decide ((k : Int) < 64) = false := by simp; omega
      have d0 : (0 ≤ (k : Int)) = True := by simp
      have d1 : ((k : Int) < 64) = False := by simp; omega
      simp -implicitDefEqProofs -dsimp only [go_sem, reduceIte, Nat.reduceEqDiff, Nat.reduceAdd, Nat.reduceMul, Nat.reduceSub, Nat.reduceLT, Nat.reduceLeDiff, Nat.reduceBEq, Int.reduceLE, Int.reduceLT, Int.reduceEq, Int.reduceToNat, Int.reduceAdd, Int.reduceMul, Int.reduceSub, Int.reduceNeg, reduceCtorEq, if_true, if_false, hX, d, d0, d1]
  · have d : decide (0 ≤ i) = false := by simp; omega
    have d0 : (0 ≤ i) = False := by simp; omega
    simp -implicitDefEqProofs -dsimp only [go_sem, reduceIte, Nat.reduceEqDiff, Nat.reduceAdd, Nat.reduceMul, Nat.reduceSub, Nat.reduceLT, Nat.reduceLeDiff, Nat.reduceBEq, Int.reduceLE, Int.reduceLT, Int.reduceEq, Int.reduceToNat, Int.reduceAdd, Int.reduceMul, Int.reduceSub, Int.reduceNeg, reduceCtorEq, if_true, if_false, hX, d, d0]
theorem bit32n_spec (GL : List (Nat × List Value)) (n i : Nat) (hn : n < 2 ^ 32) (hi : i < 64) : SX.Spec Tryd.prog GL 39 0 [.int .u32 n, .int .i64 i] [] (fun v H => v = .bool (n.testBit i) ∧ H = []) := by
  refine spec_mono (bit32_spec GL n i hn) ?_
  rintro v H ⟨rfl, rfl⟩
  refine ⟨?_, rfl⟩
  have : (0 ≤ (i : Int) ∧ (i : Int) < 64) := by omega
  simp [this, hi]
/-- The table of the library's. -/
def tzT : List Value := deBruijn.map fun n : Nat => .int .u8 (n : Int)
theorem tzT_at {q k : Nat} (hq : q < 64) (h : deBruijn.getD q 0 = k) : tzT[q]? = some (.int .u8 (k : Int)) := by
  have hl : deBruijn.length = 64 := by decide
  unfold tzT
  generalize deBruijn = l at *
  rw [List.getElem?_map]
  rw [List.getD_eq_getElem?_getD, List.getElem?_eq_getElem (by omega)] at h
  rw [List.getElem?_eq_getElem (by omega)]
  simp only [Option.getD_some] at h
  simp [h]
theorem tzT_get {k : Nat} (h : k < 64) : tzT[2 ^ k * 285870213051353865 % 2 ^ 64 / 2 ^ 58]? = some (.int .u8 (k : Int)) := by
  refine tzT_at ?_ (deBruijn_ok k h)
  generalize 2 ^ k * 285870213051353865 = z
  have := Nat.mod_lt z (show 0 < 2 ^ 64 by decide)
  omega
theorem tz_spec (GL : List (Nat × List Value)) (hG : lookG GL (GB + 1) = some (.flat tzT 64 false)) (k m : Nat) (h : 2 ^ k * (2 * m + 1) < 2 ^ 64) : SX.Spec Tryd.prog GL 44 0 [.int .u64 ((2 ^ k * (2 * m + 1) : Nat) : Int)] [] (fun v H => v = .int .i64 k ∧ H = []) := by
  refine spec_of_ev (fn := Tryd.f44) (by kernel_rfl) math_bits_TrailingZeros64.ok math_bits_TrailingZeros64.rok (Nat.le_of_ble_eq_true rfl) fun X hX hXn => ?_
  unfold math_bits_TrailingZeros64.ic math_bits_TrailingZeros64.rv
  have hp := Nat.two_pow_pos k
  have hk : k < 64 := by
    have h1 : 2 ^ k * 1 ≤ 2 ^ k * (2 * m + 1) := Nat.mul_le_mul_left _ (by omega)
    exact (Nat.pow_lt_pow_iff_right (a := 2) (by omega)).1 (by omega)
  have hlow := low_bit 64 k m h
  generalize hw : 2 ^ k * (2 * m + 1) = w at *
  have w0 : 0 < w := by rw [← hw]; exact Nat.mul_pos hp (by omega)
  have d : decide ((w : Int) = 0) = false := by simp; omega
  have e1 : IntKind.u64.wrap (0 - (w : Int)) = ((2 ^ 64 - w : Nat) : Int) := by
    rw [wrap_u64_mod]; omega
  have e2 : iand .u64 (w : Int) ((2 ^ 64 - w : Nat) : Int) = ((2 ^ k : Nat) : Int) := by rw [iand_nat rfl h (by show _ < 2 ^ 64; omega), hlow]
  have e3 : IntKind.u64.wrap (((2 ^ k : Nat) : Int) * 285870213051353865) = ((2 ^ k * 285870213051353865 % 2 ^ 64 : Nat) : Int) := by
    rw [wrap_u64_mod, Int.natCast_emod, Int.natCast_mul]; rfl
  have e4 : ishr .u64 ((2 ^ k * 285870213051353865 % 2 ^ 64 : Nat) : Int) 58 = ((2 ^ k * 285870213051353865 % 2 ^ 64 / 2 ^ 58 : Nat) : Int) := ishr_nat (i := 58) (by decide)
  have e5 : 2 ^ k * 285870213051353865 % 2 ^ 64 / 2 ^ 58 < 64 := by
    have := Nat.mod_lt (2 ^ k * 285870213051353865) (show 0 < 2 ^ 64 by decide)
    omega
  have e6 := tzT_get hk
  have e7 : IntKind.i64.wrap (k : Int) = k := wrap_i64 (by omega) (by omega)
  simp only [GB, Nat.reduceAdd] at hG
  clear hw hlow
  generalize 2 ^ k * 285870213051353865 % 2 ^ 64 = q at *
  generalize hq : q / 2 ^ 58 = q2 at *
  have e8 : ((q2 : Int) < 64) = True := by simp; omega
  simp -implicitDefEqProofs -dsimp only [go_sem, reduceIte, Nat.reduceEqDiff, Nat.reduceAdd, Nat.reduceMul, Nat.reduceSub, Nat.reduceLT, Nat.reduceLeDiff, Nat.reduceBEq, Int.reduceLE, Int.reduceLT, Int.reduceEq, Int.reduceToNat, Int.reduceAdd, Int.reduceMul, Int.reduceSub, Int.reduceNeg, reduceCtorEq, if_true, if_false, hX, d, e1, e2, e3, e4, hG, e8, e6, e7]
end Go.Proofs.YtbiaogehcnedmaaDoor
