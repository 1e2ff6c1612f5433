/-
  The best of a plic's sources.
-/
import Derived.Test.YtbiaogehcnedmaaDoorPlC
set_option linter.unusedVariables false
set_option linter.unusedSimpArgs false
set_option maxRecDepth 100000
namespace Go.Proofs.YtbiaogehcnedmaaDoor
open Go Go.SX
theorem mk_PC {p : PS} (h : p.ok) : mk (PC p) = PB p := by rw [mk, PC_leaf, PC_length h]; rfl
theorem PC_ridL (θ : Nat → Nat) (p : PS) : ridL θ (PC p) = PC p := ridL_leaf _ (PC_leaf p)
attribute [push_cast] PC_ridL
def bestL (pr : List Nat) : Nat → List Nat → Nat
  | b, [] => b
  | b, s :: r => bestL pr (if pr.getD s 0 ≤ pr.getD b 0 then b else s) r
theorem bestL_lt {pr : List Nat} : ∀ {l : List Nat} {b : Nat}, b < 32 → (∀ s ∈ l, s < 32) → bestL pr b l < 32
  | [], b, h, _ => h
  | s :: l, b, h, hl => by
    simp only [bestL]
    refine bestL_lt ?_ fun x hx => hl x (by simp [hx])
    split
    · exact h
    · exact hl s (by simp)
def PS.on (p : PS) (c : Int) : Nat := if c = 0 then p.on0 else p.on1
def PS.best (p : PS) (c : Int) : Nat := if 0 ≤ c ∧ c < 2 then bestL p.prio 0 (ones (p.pend &&& p.on c)) else 0
theorem ones32 {w : Nat} (hw : w < 2 ^ 32) : ∀ s ∈ ones w, s < 32 := by
  intro s hs
  unfold ones at hs
  simp at hs
  by_cases h : s < 32
  · exact h
  · rw [bit_out hw (by omega)] at hs
    cases hs.2
theorem PS.best_lt {p : PS} (h : p.ok) (c : Int) : p.best c < 32 := by
  unfold PS.best
  split
  · exact bestL_lt (by omega) (ones32 (Nat.lt_of_le_of_lt Nat.and_le_left h.pend))
  · omega
theorem best_spec (GL : List (Nat × List Value)) (hG : lookG GL (GB + 1) = some (.flat tzT 64 false)) (p : PS) (hp : p.ok) (c : Int) : SX.Spec Tryd.prog GL 18 0 [.agg ⟨PC p⟩, .int .i64 c] [] (fun v H => v = .int .i64 (p.best c) ∧ H = []) := by
  refine spec_sel (R := fun v H => v = .int .i64 (p.best c)) ?_ ?_
  · refine spec_of_ev (fn := Tryd.f18) (by kernel_rfl) plic_Plic_Best.ok plic_Plic_Best.rok (Nat.le_of_ble_eq_true rfl) fun X hX hXn => ?_
    unfold plic_Plic_Best.ic plic_Plic_Best.rv
    by_cases hc : ¬ (0 ≤ c ∧ c < 2)
    · have e : p.best c = 0 := by rw [PS.best, if_neg hc]
      rw [e]
      by_cases h0 : c < 0
      · have d : decide (c < 0) = true := by simpa using h0
        simp -implicitDefEqProofs -dsimp only [go_sem, reduceIte, Nat.reduceEqDiff, Nat.reduceAdd, Nat.reduceMul, Nat.reduceSub, Nat.reduceLT, Nat.reduceLeDiff, Nat.reduceBEq, Int.reduceLE, Int.reduceLT, Int.reduceEq, Int.reduceToNat, Int.reduceAdd, Int.reduceMul, Int.reduceSub, Int.reduceNeg, reduceCtorEq, if_true, if_false, hX, d]
      · have d : decide (c < 0) = false := by simpa using h0
        have d2 : decide (2 ≤ c) = true := by simp; omega
        simp -implicitDefEqProofs -dsimp only [go_sem, reduceIte, Nat.reduceEqDiff, Nat.reduceAdd, Nat.reduceMul, Nat.reduceSub, Nat.reduceLT, Nat.reduceLeDiff, Nat.reduceBEq, Int.reduceLE, Int.reduceLT, Int.reduceEq, Int.reduceToNat, Int.reduceAdd, Int.reduceMul, Int.reduceSub, Int.reduceNeg, reduceCtorEq, if_true, if_false, hX, d, d2]
    · replace hc : 0 ≤ c ∧ c < 2 := by omega
      have d : decide (c < 0) = false := by simp; omega
      have d2 : decide (2 ≤ c) = false := by simp; omega
      have d3 : (0 ≤ c) = True := by simp; omega
      have d4 : (c < 2) = True := by simp; omega
      have hon : p.on c < 2 ^ 32 := by unfold PS.on; split; exact hp.on0; exact hp.on1
      have e1 : rd (some (PB p)) (35 + c.toNat) = some (.int .u32 (p.on c)) := by
        have : c = 0 ∨ c = 1 := by omega
        rcases this with rfl | rfl
        · exact PB_on0 hp
        · exact PB_on1 hp
      have e2 : iand .u32 (p.pend : Int) (p.on c : Int) = ((p.pend &&& p.on c : Nat) : Int) := iand_nat rfl hp.pend hon
      have hw : p.pend &&& p.on c < 2 ^ 32 := Nat.lt_of_le_of_lt Nat.and_le_left hp.pend
      have e3 : IntKind.u64.wrap ((p.pend &&& p.on c : Nat) : Int) = ((p.pend &&& p.on c : Nat) : Int) := wrap_nat rfl (Nat.lt_trans hw (by decide))
      have eb : p.best c = bestL p.prio 0 (ones (p.pend &&& p.on c)) := by rw [PS.best, if_pos hc]
      have h32 := ones32 hw
      have hos := ones_spec GL hG _ (Nat.lt_trans hw (by decide : 2 ^ 32 < 2 ^ 64))
      have h64 := ones_le (p.pend &&& p.on c)
      rw [eb]
      simp -implicitDefEqProofs -dsimp only [go_sem, reduceIte, Nat.reduceEqDiff, Nat.reduceAdd, Nat.reduceMul, Nat.reduceSub, Nat.reduceLT, Nat.reduceLeDiff, Nat.reduceBEq, Int.reduceLE, Int.reduceLT, Int.reduceEq, Int.reduceToNat, Int.reduceAdd, Int.reduceMul, Int.reduceSub, Int.reduceNeg, reduceCtorEq, if_true, if_false, hX, d, d2, mk_PC hp]
      refine mix_intro [0] ?_
      simp -implicitDefEqProofs -dsimp only [go_sem, reduceIte, Nat.reduceEqDiff, Nat.reduceAdd, Nat.reduceMul, Nat.reduceSub, Nat.reduceLT, Nat.reduceLeDiff, Nat.reduceBEq, Int.reduceLE, Int.reduceLT, Int.reduceEq, Int.reduceToNat, Int.reduceAdd, Int.reduceMul, Int.reduceSub, Int.reduceNeg, reduceCtorEq, if_true, if_false, hX, d3, d4, e1, e2, e3]
      generalize p.pend &&& p.on c = w at *
      refine call_of_spec (hX ▸ (hos)) [] (by decide) (by simp) (by simp [BAD]) (by simp) (by simp only [push_cast, reduceIte, Nat.reduceEqDiff, Nat.reduceAdd, Nat.reduceMul, Nat.reduceSub, Nat.reduceLT, Nat.reduceLeDiff, Nat.reduceBEq, Int.reduceLE, Int.reduceLT, Int.reduceEq, Int.reduceToNat, Int.reduceAdd, Int.reduceMul, Int.reduceSub, Int.reduceNeg, reduceCtorEq, if_true, if_false]) (by simp only [push_cast, reduceIte, Nat.reduceEqDiff, Nat.reduceAdd, Nat.reduceMul, Nat.reduceSub, Nat.reduceLT, Nat.reduceLeDiff, Nat.reduceBEq, Int.reduceLE, Int.reduceLT, Int.reduceEq, Int.reduceToNat, Int.reduceAdd, Int.reduceMul, Int.reduceSub, Int.reduceNeg, reduceCtorEq, if_true, if_false]) ?_
      rintro v H ⟨vl, hv1, hv2, hv3, rfl, rfl⟩ _
      simp only [push_cast, reduceIte, Nat.reduceEqDiff, Nat.reduceAdd, Nat.reduceMul, Nat.reduceSub, Nat.reduceLT, Nat.reduceLeDiff, Nat.reduceBEq, Int.reduceLE, Int.reduceLT, Int.reduceEq, Int.reduceToNat, Int.reduceAdd, Int.reduceMul, Int.reduceSub, Int.reduceNeg, reduceCtorEq, if_true, if_false]
      simp -implicitDefEqProofs -dsimp only [go_sem, reduceIte, Nat.reduceEqDiff, Nat.reduceAdd, Nat.reduceMul, Nat.reduceSub, Nat.reduceLT, Nat.reduceLeDiff, Nat.reduceBEq, Int.reduceLE, Int.reduceLT, Int.reduceEq, Int.reduceToNat, Int.reduceAdd, Int.reduceMul, Int.reduceSub, Int.reduceNeg, reduceCtorEq, if_true, if_false, hX, VL.sl _ hv1]
      generalize ones w = l at *
      refine ⟨fun t H m => ∃ (i b : Nat), i ≤ l.length ∧ b < 32 ∧ bestL p.prio b (l.drop i) = bestL p.prio 0 l ∧ m = l.length - i ∧ t = [(2, .pointer (some ⟨0, 0, none⟩)), (5, .int .i64 b), (22, vl.v 1), (23, .int .i64 l.length), (24, .int .i64 i)] ∧ H = [PB p, vl.o], ?_, ?_⟩
      · refine ⟨[0, 1], _, _, by rw [hXn]; rfl, by decide, by decide, ?_, ?_, _, 0, 0, by omega, by omega, rfl, rfl, rfl, rfl⟩
        · simp only [push_cast, reduceIte, Nat.reduceEqDiff, Nat.reduceAdd, Nat.reduceMul, Nat.reduceSub, Nat.reduceLT, Nat.reduceLeDiff, Nat.reduceBEq, Int.reduceLE, Int.reduceLT, Int.reduceEq, Int.reduceToNat, Int.reduceAdd, Int.reduceMul, Int.reduceSub, Int.reduceNeg, reduceCtorEq, if_true, if_false]
        · simp only [hv3, push_cast, reduceIte, Nat.reduceEqDiff, Nat.reduceAdd, Nat.reduceMul, Nat.reduceSub, Nat.reduceLT, Nat.reduceLeDiff, Nat.reduceBEq, Int.reduceLE, Int.reduceLT, Int.reduceEq, Int.reduceToNat, Int.reduceAdd, Int.reduceMul, Int.reduceSub, Int.reduceNeg, reduceCtorEq, if_true, if_false]
      rintro t H m ⟨i, b, hi, hb, hbl, rfl, rfl, rfl⟩
      unfold plic_Plic_Best.l5
      by_cases hil : ¬ i < l.length
      · have d5 : decide ((i : Int) < (l.length : Int)) = false := by simp; omega
        simp -implicitDefEqProofs -dsimp only [go_sem, reduceIte, Nat.reduceEqDiff, Nat.reduceAdd, Nat.reduceMul, Nat.reduceSub, Nat.reduceLT, Nat.reduceLeDiff, Nat.reduceBEq, Int.reduceLE, Int.reduceLT, Int.reduceEq, Int.reduceToNat, Int.reduceAdd, Int.reduceMul, Int.reduceSub, Int.reduceNeg, reduceCtorEq, if_true, if_false, hX, d5]
        rw [List.drop_eq_nil_of_le (by omega)] at hbl
        simp only [bestL] at hbl
        rw [hbl]
      · replace hil : i < l.length := by omega
        have d5 : decide ((i : Int) < (l.length : Int)) = true := by simp; omega
        have hnil := VL.nil_of hv1 (show i < vl.n by omega)
        have d6 : ((i : Int) < (vl.n : Int)) = True := by simp; omega
        have hl : vl.l.length = l.length := by rw [hv2, ints, List.length_map]
        have e4 : rd (some vl.o) (vl.pre.length + i) = some (.int .i64 (l[i] : Nat)) := by
          rw [VL.at hnil (by omega), hv2, ints, List.getElem?_map, List.getElem?_eq_getElem hil]; rfl
        have hs := h32 l[i] (List.getElem_mem hil)
        have hdrop : l.drop i = l[i] :: l.drop (i + 1) := List.drop_eq_getElem_cons hil
        generalize l[i] = s at *
        have d7 : ((s : Int) < 32) = True := by simp; omega
        have d8 : ((b : Int) < 32) = True := by simp; omega
        have w1 : IntKind.i64.wrap ((i : Int) + 1) = (i : Int) + 1 := wrap_i64 (by omega) (by omega)
        simp -implicitDefEqProofs -dsimp only [go_sem, reduceIte, Nat.reduceEqDiff, Nat.reduceAdd, Nat.reduceMul, Nat.reduceSub, Nat.reduceLT, Nat.reduceLeDiff, Nat.reduceBEq, Int.reduceLE, Int.reduceLT, Int.reduceEq, Int.reduceToNat, Int.reduceAdd, Int.reduceMul, Int.reduceSub, Int.reduceNeg, reduceCtorEq, if_true, if_false, hX, d5, VL.v_some hnil, d6, e4]
        refine mix_intro [0] ?_
        simp -implicitDefEqProofs -dsimp only [go_sem, reduceIte, Nat.reduceEqDiff, Nat.reduceAdd, Nat.reduceMul, Nat.reduceSub, Nat.reduceLT, Nat.reduceLeDiff, Nat.reduceBEq, Int.reduceLE, Int.reduceLT, Int.reduceEq, Int.reduceToNat, Int.reduceAdd, Int.reduceMul, Int.reduceSub, Int.reduceNeg, reduceCtorEq, if_true, if_false, hX, d7, d8, PB_prio hp hs, PB_prio hp hb]
        rw [hdrop, bestL] at hbl
        refine brS_intro (fun h => ?_) (fun h => ?_) <;> simp -implicitDefEqProofs -dsimp only [go_sem, reduceIte, Nat.reduceEqDiff, Nat.reduceAdd, Nat.reduceMul, Nat.reduceSub, Nat.reduceLT, Nat.reduceLeDiff, Nat.reduceBEq, Int.reduceLE, Int.reduceLT, Int.reduceEq, Int.reduceToNat, Int.reduceAdd, Int.reduceMul, Int.reduceSub, Int.reduceNeg, reduceCtorEq, if_true, if_false, hX, w1]
        · have h' : p.prio.getD s 0 ≤ p.prio.getD b 0 := by simpa using h
          rw [if_pos h'] at hbl
          refine ⟨[0, 1], _, _, by rw [hXn]; rfl, by decide, by decide, ?_, ?_, _, by omega, i + 1, b, by omega, hb, hbl, rfl, rfl, rfl⟩
          · simp only [VL.v_some hnil, push_cast, reduceIte, Nat.reduceEqDiff, Nat.reduceAdd, Nat.reduceMul, Nat.reduceSub, Nat.reduceLT, Nat.reduceLeDiff, Nat.reduceBEq, Int.reduceLE, Int.reduceLT, Int.reduceEq, Int.reduceToNat, Int.reduceAdd, Int.reduceMul, Int.reduceSub, Int.reduceNeg, reduceCtorEq, if_true, if_false]
          · simp only [VL.v_some hnil, push_cast, reduceIte, Nat.reduceEqDiff, Nat.reduceAdd, Nat.reduceMul, Nat.reduceSub, Nat.reduceLT, Nat.reduceLeDiff, Nat.reduceBEq, Int.reduceLE, Int.reduceLT, Int.reduceEq, Int.reduceToNat, Int.reduceAdd, Int.reduceMul, Int.reduceSub, Int.reduceNeg, reduceCtorEq, if_true, if_false]
        · have h' : ¬ p.prio.getD s 0 ≤ p.prio.getD b 0 := by simpa using h
          rw [if_neg h'] at hbl
          refine ⟨[0, 1], _, _, by rw [hXn]; rfl, by decide, by decide, ?_, ?_, _, by omega, i + 1, s, by omega, hs, hbl, rfl, rfl, rfl⟩
          · simp only [VL.v_some hnil, push_cast, reduceIte, Nat.reduceEqDiff, Nat.reduceAdd, Nat.reduceMul, Nat.reduceSub, Nat.reduceLT, Nat.reduceLeDiff, Nat.reduceBEq, Int.reduceLE, Int.reduceLT, Int.reduceEq, Int.reduceToNat, Int.reduceAdd, Int.reduceMul, Int.reduceSub, Int.reduceNeg, reduceCtorEq, if_true, if_false]
          · simp only [VL.v_some hnil, push_cast, reduceIte, Nat.reduceEqDiff, Nat.reduceAdd, Nat.reduceMul, Nat.reduceSub, Nat.reduceLT, Nat.reduceLeDiff, Nat.reduceBEq, Int.reduceLE, Int.reduceLT, Int.reduceEq, Int.reduceToNat, Int.reduceAdd, Int.reduceMul, Int.reduceSub, Int.reduceNeg, reduceCtorEq, if_true, if_false]
  · rintro v H rfl
    exact ⟨[], _, [], rfl, by decide, by simp, by simp [selH], rfl, rfl, rfl⟩
end Go.Proofs.YtbiaogehcnedmaaDoor
