/-
  The numbers of a word's bits.
-/
import Derived.Test.YtbiaogehcnedmaaDoorPlB
set_option linter.unusedVariables false
set_option linter.unusedSimpArgs false
set_option maxRecDepth 100000
namespace Go.Proofs.YtbiaogehcnedmaaDoor
open Go Go.SX
def ints (l : List Nat) : List Value := l.map fun n : Nat => .int .i64 (n : Int)
theorem ints_leaf (l : List Nat) : leafL (ints l) = true := leafL_iff.2 fun v hv => by obtain ⟨n, _, rfl⟩ := List.mem_map.1 hv; rfl
theorem ints_one (l : List Nat) : oneL (ints l) = true := by induction l <;> simp_all [ints, oneL, Value.oneCell']
theorem elem_int : ElemT Tryd.prog 73 3 1 8 := elemT_of (by kernel_rfl) (by kernel_rfl)
theorem ones_le (w : Nat) : (ones w).length ≤ 64 := Nat.le_trans (List.length_filter_le _ _) (by simp)
theorem ones_lt (w : Nat) : ∀ i ∈ ones w, i < 64 := by intro i hi; unfold ones at hi; simp at hi; exact hi.1
theorem ones_spec (GL : List (Nat × List Value)) (hG : lookG GL (GB + 1) = some (.flat tzT 64 false)) (w : Nat) (hw : w < 2 ^ 64) : SX.Spec Tryd.prog GL 38 0 [.int .u64 w] [] (fun v H => ∃ c : VL, c.ok 1 ∧ c.l = ints (ones w) ∧ c.n = (ones w).length ∧ v = c.v 0 ∧ H = [c.o]) := by
  refine spec_of_ev (fn := Tryd.f38) (by kernel_rfl) bits_Ones.ok bits_Ones.rok (Nat.le_of_ble_eq_true rfl) fun X hX hXn => ?_
  unfold bits_Ones.ic bits_Ones.rv
  simp -implicitDefEqProofs -dsimp only [go_sem, reduceIte, Nat.reduceEqDiff, Nat.reduceAdd, Nat.reduceMul, Nat.reduceSub, Nat.reduceLT, Nat.reduceLeDiff, Nat.reduceBEq, Int.reduceLE, Int.reduceLT, Int.reduceEq, Int.reduceToNat, Int.reduceAdd, Int.reduceMul, Int.reduceSub, Int.reduceNeg, reduceCtorEq, if_true, if_false, hX]
  refine ⟨fun t H m => ∃ (w' : Nat) (c : VL) (l : List Nat), w' < 2 ^ 64 ∧ ones w = l ++ ones w' ∧ c.ok 1 ∧ c.l = ints l ∧ c.n = l.length ∧ m = (ones w').length ∧ t = [(0, .int .u64 w'), (3, c.v 0)] ∧ H = [c.o], ?_, ?_⟩
  · refine ⟨[0], _, _, by rw [hXn]; rfl, by decide, by decide, ?_, ?_, _, w, VL.none, [], hw, rfl, VL.none_ok, rfl, rfl, rfl, rfl, rfl⟩
    · simp only [VL.none_o, push_cast, reduceIte, Nat.reduceEqDiff, Nat.reduceAdd, Nat.reduceMul, Nat.reduceSub, Nat.reduceLT, Nat.reduceLeDiff, Nat.reduceBEq, Int.reduceLE, Int.reduceLT, Int.reduceEq, Int.reduceToNat, Int.reduceAdd, Int.reduceMul, Int.reduceSub, Int.reduceNeg, reduceCtorEq, if_true, if_false]
    · simp only [selE.eq_1, selE.eq_2, SX.get, VL.none_v, imp_self, true_implies, push_cast, reduceIte, Nat.reduceEqDiff, Nat.reduceAdd, Nat.reduceMul, Nat.reduceSub, Nat.reduceLT, Nat.reduceLeDiff, Nat.reduceBEq, Int.reduceLE, Int.reduceLT, Int.reduceEq, Int.reduceToNat, Int.reduceAdd, Int.reduceMul, Int.reduceSub, Int.reduceNeg, reduceCtorEq, if_true, if_false]
  rintro t H m ⟨w', c, l, hw', hl, hc, hcl, hcn, rfl, rfl, rfl⟩
  unfold bits_Ones.l2
  by_cases h0 : w' = 0
  · subst h0
    have d : decide (((0 : Nat) : Int) = 0) = true := by simp
    simp -implicitDefEqProofs -dsimp only [go_sem, reduceIte, Nat.reduceEqDiff, Nat.reduceAdd, Nat.reduceMul, Nat.reduceSub, Nat.reduceLT, Nat.reduceLeDiff, Nat.reduceBEq, Int.reduceLE, Int.reduceLT, Int.reduceEq, Int.reduceToNat, Int.reduceAdd, Int.reduceMul, Int.reduceSub, Int.reduceNeg, reduceCtorEq, if_true, if_false, hX, d]
    rw [ones_zero, List.append_nil] at hl
    exact ⟨c, hc, by rw [hcl, hl], by rw [hcn, hl], rfl, rfl⟩
  · obtain ⟨k, m, rfl⟩ := odd_part w' h0
    have hstep := ones_step hw'
    have htz := tz_spec GL hG k m hw'
    have hle := ones_le w
    generalize 2 ^ k * (2 * m + 1) = w' at *
    have d : decide ((w' : Int) = 0) = false := by simp; omega
    have e1 : IntKind.u64.wrap ((w' : Int) - 1) = ((w' - 1 : Nat) : Int) := by
      have : (w' : Int) - 1 = ((w' - 1 : Nat) : Int) := by omega
      rw [this, wrap_nat rfl (by show _ < 2 ^ 64; omega)]
    have e2 : iand .u64 (w' : Int) ((w' - 1 : Nat) : Int) = ((w' &&& (w' - 1) : Nat) : Int) := iand_nat rfl hw' (by show _ < 2 ^ 64; omega)
    simp -implicitDefEqProofs -dsimp only [go_sem, reduceIte, Nat.reduceEqDiff, Nat.reduceAdd, Nat.reduceMul, Nat.reduceSub, Nat.reduceLT, Nat.reduceLeDiff, Nat.reduceBEq, Int.reduceLE, Int.reduceLT, Int.reduceEq, Int.reduceToNat, Int.reduceAdd, Int.reduceMul, Int.reduceSub, Int.reduceNeg, reduceCtorEq, if_true, if_false, hX, d]
    refine call_leaf hX htz rfl rfl ?_ ?_
    · simp [BAD]
    simp -implicitDefEqProofs -dsimp only [go_sem, reduceIte, Nat.reduceEqDiff, Nat.reduceAdd, Nat.reduceMul, Nat.reduceSub, Nat.reduceLT, Nat.reduceLeDiff, Nat.reduceBEq, Int.reduceLE, Int.reduceLT, Int.reduceEq, Int.reduceToNat, Int.reduceAdd, Int.reduceMul, Int.reduceSub, Int.reduceNeg, reduceCtorEq, if_true, if_false, hX, mk]
    have hlen : l.length < 64 := by rw [hl, hstep] at hle; simp at hle; omega
    refine append_vl (b := c) (k := 0) (j := ⟨1, 0, none⟩) (m := 1) (xc := 1) (src := [.int .i64 (k : Int)]) elem_int (by decide) (by decide) rfl rfl (by decide) rfl rfl hc rfl rfl rfl (by simp [BAD]) (by decide) ?_ rfl rfl (by rw [hcn]; omega) (by decide) ?_
    · rw [hX]; rfl
    intro b' hb1 hb2 hb3 hb4
    simp -implicitDefEqProofs -dsimp only [go_sem, reduceIte, Nat.reduceEqDiff, Nat.reduceAdd, Nat.reduceMul, Nat.reduceSub, Nat.reduceLT, Nat.reduceLeDiff, Nat.reduceBEq, Int.reduceLE, Int.reduceLT, Int.reduceEq, Int.reduceToNat, Int.reduceAdd, Int.reduceMul, Int.reduceSub, Int.reduceNeg, reduceCtorEq, if_true, if_false, hX, e1, e2]
    refine ⟨[2], _, _, by rw [hXn]; rfl, by decide, by decide, ?_, ?_, _, ?_, w' &&& (w' - 1), b', l ++ [k], Nat.lt_of_le_of_lt Nat.and_le_left hw', by rw [hl, hstep]; simp, hb1, by rw [hb4, hcl]; simp [ints], by rw [hb3, hcn]; simp, rfl, rfl, rfl⟩
    · simp only [push_cast, reduceIte, Nat.reduceEqDiff, Nat.reduceAdd, Nat.reduceMul, Nat.reduceSub, Nat.reduceLT, Nat.reduceLeDiff, Nat.reduceBEq, Int.reduceLE, Int.reduceLT, Int.reduceEq, Int.reduceToNat, Int.reduceAdd, Int.reduceMul, Int.reduceSub, Int.reduceNeg, reduceCtorEq, if_true, if_false]
    · simp only [selE.eq_1, selE.eq_2, SX.get, imp_self, true_implies, push_cast, reduceIte, Nat.reduceEqDiff, Nat.reduceAdd, Nat.reduceMul, Nat.reduceSub, Nat.reduceLT, Nat.reduceLeDiff, Nat.reduceBEq, Int.reduceLE, Int.reduceLT, Int.reduceEq, Int.reduceToNat, Int.reduceAdd, Int.reduceMul, Int.reduceSub, Int.reduceNeg, reduceCtorEq, if_true, if_false]
    · rw [hstep]; simp
end Go.Proofs.YtbiaogehcnedmaaDoor
