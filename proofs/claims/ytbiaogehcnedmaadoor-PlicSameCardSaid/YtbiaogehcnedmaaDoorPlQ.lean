/-
  The law PlicSame over symbolic heaps.
-/
import Derived.Test.YtbiaogehcnedmaaDoorPlP
set_option linter.unusedVariables false
set_option linter.unusedSimpArgs false
set_option maxRecDepth 100000
set_option maxHeartbeats 1000000
namespace Go.Proofs.YtbiaogehcnedmaaDoor
open Go Go.SX
theorem same_spec (GL : List (Nat × List Value)) (hG : lookG GL (GB + 1) = some (.flat tzT 64 false)) (l m : List Ap) (hl : ∀ a ∈ l, a.ok) (hm : ∀ a ∈ m, a.ok) (nil nil' : Bool) (cap cap' : Nat) (hn : nil = true → l.length = 0 ∧ cap = 0) (hn' : nil' = true → m.length = 0 ∧ cap' = 0) :
    SX.Spec Tryd.prog GL 5 2 [sl nil 0 0 l.length cap, sl nil' 1 0 m.length cap'] [apR l, apR m] (fun v H => v = .bool true) := by
  refine spec_of_ev (fn := Tryd.f5) (by kernel_rfl) law05_PlicSame.ok law05_PlicSame.rok (Nat.le_of_ble_eq_true rfl) fun X hX hXn => ?_
  unfold law05_PlicSame.ic law05_PlicSame.rv
  have hz := PS.zero_ok
  simp -implicitDefEqProofs -dsimp only [go_sem, reduceIte, Nat.reduceEqDiff, Nat.reduceAdd, Nat.reduceMul, Nat.reduceSub, Nat.reduceLT, Nat.reduceLeDiff, Nat.reduceBEq, Int.reduceLE, Int.reduceLT, Int.reduceEq, Int.reduceToNat, Int.reduceAdd, Int.reduceMul, Int.reduceSub, Int.reduceNeg, reduceCtorEq, if_true, if_false, hX]
  refine call_of_spec (hX ▸ (awake05_spec GL hG)) [] (by decide) (by simp) (by simp [BAD]) (by simp) (by simp only [push_cast, reduceIte, Nat.reduceEqDiff, Nat.reduceAdd, Nat.reduceMul, Nat.reduceSub, Nat.reduceLT, Nat.reduceLeDiff, Nat.reduceBEq, Int.reduceLE, Int.reduceLT, Int.reduceEq, Int.reduceToNat, Int.reduceAdd, Int.reduceMul, Int.reduceSub, Int.reduceNeg, reduceCtorEq, if_true, if_false]) (by simp only [push_cast, reduceIte, Nat.reduceEqDiff, Nat.reduceAdd, Nat.reduceMul, Nat.reduceSub, Nat.reduceLT, Nat.reduceLeDiff, Nat.reduceBEq, Int.reduceLE, Int.reduceLT, Int.reduceEq, Int.reduceToNat, Int.reduceAdd, Int.reduceMul, Int.reduceSub, Int.reduceNeg, reduceCtorEq, if_true, if_false]) ?_
  rintro v H ⟨rfl, rfl⟩ _
  simp only [push_cast, reduceIte, Nat.reduceEqDiff, Nat.reduceAdd, Nat.reduceMul, Nat.reduceSub, Nat.reduceLT, Nat.reduceLeDiff, Nat.reduceBEq, Int.reduceLE, Int.reduceLT, Int.reduceEq, Int.reduceToNat, Int.reduceAdd, Int.reduceMul, Int.reduceSub, Int.reduceNeg, reduceCtorEq, if_true, if_false]
  simp -implicitDefEqProofs -dsimp only [go_sem, reduceIte, Nat.reduceEqDiff, Nat.reduceAdd, Nat.reduceMul, Nat.reduceSub, Nat.reduceLT, Nat.reduceLeDiff, Nat.reduceBEq, Int.reduceLE, Int.reduceLT, Int.reduceEq, Int.reduceToNat, Int.reduceAdd, Int.reduceMul, Int.reduceSub, Int.reduceNeg, reduceCtorEq, if_true, if_false, hX, asSl_sl hn]
  suffices main : l.length ≤ 100 → m.length ≤ 100 → True by
    by_cases h1 : 100 < l.length
    · have d1 : decide ((100 : Int) < (l.length : Int)) = true := decide_eq_true (by omega)
      simp -implicitDefEqProofs -dsimp only [go_sem, reduceIte, Nat.reduceEqDiff, Nat.reduceAdd, Nat.reduceMul, Nat.reduceSub, Nat.reduceLT, Nat.reduceLeDiff, Nat.reduceBEq, Int.reduceLE, Int.reduceLT, Int.reduceEq, Int.reduceToNat, Int.reduceAdd, Int.reduceMul, Int.reduceSub, Int.reduceNeg, reduceCtorEq, if_true, if_false, hX, d1]
    have d1 : decide ((100 : Int) < (l.length : Int)) = false := decide_eq_false (by omega)
    by_cases h2 : 100 < m.length
    · have d2 : decide ((100 : Int) < (m.length : Int)) = true := decide_eq_true (by omega)
      simp -implicitDefEqProofs -dsimp only [go_sem, reduceIte, Nat.reduceEqDiff, Nat.reduceAdd, Nat.reduceMul, Nat.reduceSub, Nat.reduceLT, Nat.reduceLeDiff, Nat.reduceBEq, Int.reduceLE, Int.reduceLT, Int.reduceEq, Int.reduceToNat, Int.reduceAdd, Int.reduceMul, Int.reduceSub, Int.reduceNeg, reduceCtorEq, if_true, if_false, hX, d1, asSl_sl hn', d2]
    have d2 : decide ((100 : Int) < (m.length : Int)) = false := decide_eq_false (by omega)
    simp -implicitDefEqProofs -dsimp only [go_sem, reduceIte, Nat.reduceEqDiff, Nat.reduceAdd, Nat.reduceMul, Nat.reduceSub, Nat.reduceLT, Nat.reduceLeDiff, Nat.reduceBEq, Int.reduceLE, Int.reduceLT, Int.reduceEq, Int.reduceToNat, Int.reduceAdd, Int.reduceMul, Int.reduceSub, Int.reduceNeg, reduceCtorEq, if_true, if_false, hX, d1, asSl_sl hn', d2]
    refine call_of_spec (hX ▸ (new_plic_spec GL)) [] (by decide) (by simp) (by simp [BAD]) (by simp) (by simp only [push_cast, reduceIte, Nat.reduceEqDiff, Nat.reduceAdd, Nat.reduceMul, Nat.reduceSub, Nat.reduceLT, Nat.reduceLeDiff, Nat.reduceBEq, Int.reduceLE, Int.reduceLT, Int.reduceEq, Int.reduceToNat, Int.reduceAdd, Int.reduceMul, Int.reduceSub, Int.reduceNeg, reduceCtorEq, if_true, if_false]) (by simp only [push_cast, reduceIte, Nat.reduceEqDiff, Nat.reduceAdd, Nat.reduceMul, Nat.reduceSub, Nat.reduceLT, Nat.reduceLeDiff, Nat.reduceBEq, Int.reduceLE, Int.reduceLT, Int.reduceEq, Int.reduceToNat, Int.reduceAdd, Int.reduceMul, Int.reduceSub, Int.reduceNeg, reduceCtorEq, if_true, if_false]) ?_
    rintro v H ⟨rfl, rfl⟩ _
    simp only [push_cast, reduceIte, Nat.reduceEqDiff, Nat.reduceAdd, Nat.reduceMul, Nat.reduceSub, Nat.reduceLT, Nat.reduceLeDiff, Nat.reduceBEq, Int.reduceLE, Int.reduceLT, Int.reduceEq, Int.reduceToNat, Int.reduceAdd, Int.reduceMul, Int.reduceSub, Int.reduceNeg, reduceCtorEq, if_true, if_false]
    simp -implicitDefEqProofs -dsimp only [go_sem, reduceIte, Nat.reduceEqDiff, Nat.reduceAdd, Nat.reduceMul, Nat.reduceSub, Nat.reduceLT, Nat.reduceLeDiff, Nat.reduceBEq, Int.reduceLE, Int.reduceLT, Int.reduceEq, Int.reduceToNat, Int.reduceAdd, Int.reduceMul, Int.reduceSub, Int.reduceNeg, reduceCtorEq, if_true, if_false, hX, z39_eq, PC_length hz, flat_PB, PB_wall hz hz, z194_eq, RC_length, flat_RP, RP_wall PS.zero PS.zero]
    refine ⟨fun t H k => ∃ (i : Nat) (p : PS), k = l.length - i ∧ i ≤ l.length ∧ p.good ∧ t = [(0, sl nil 0 0 l.length cap), (1, sl nil' 1 0 m.length cap'), (5, .pointer (some ⟨2, 0, none⟩)), (6, .pointer (some ⟨3, 0, none⟩)), (7, .pointer (some ⟨4, 0, none⟩)), (8, .pointer (some ⟨5, 0, none⟩)), (9, .int .i64 i)] ∧ H = [apR l, apR m, PB p, PB PS.zero, RP p, RP PS.zero], ?_, ?_⟩
    · refine ⟨[0, 1, 2, 3, 4, 5], _, _, by rw [hXn]; rfl, by decide, by decide, ?_, ?_, l.length - 0, 0, PS.zero, rfl, by omega, PS.zero_good, rfl, rfl⟩
      · simp only [push_cast, reduceIte, Nat.reduceEqDiff, Nat.reduceAdd, Nat.reduceMul, Nat.reduceSub, Nat.reduceLT, Nat.reduceLeDiff, Nat.reduceBEq, Int.reduceLE, Int.reduceLT, Int.reduceEq, Int.reduceToNat, Int.reduceAdd, Int.reduceMul, Int.reduceSub, Int.reduceNeg, reduceCtorEq, if_true, if_false]
      · simp only [push_cast, reduceIte, Nat.reduceEqDiff, Nat.reduceAdd, Nat.reduceMul, Nat.reduceSub, Nat.reduceLT, Nat.reduceLeDiff, Nat.reduceBEq, Int.reduceLE, Int.reduceLT, Int.reduceEq, Int.reduceToNat, Int.reduceAdd, Int.reduceMul, Int.reduceSub, Int.reduceNeg, reduceCtorEq, if_true, if_false]
    rintro t H k ⟨i, p, rfl, hi, hp, rfl, rfl⟩
    unfold law05_PlicSame.l10
    by_cases hlt : i < l.length
    · have d : decide ((i : Int) < (l.length : Int)) = true := decide_eq_true (by omega)
      obtain rfl : nil = false := by
        cases nil
        · rfl
        · have := (hn rfl).1; omega
      have d2 : ((i : Int) < (l.length : Int)) = True := by simp; omega
      have w : IntKind.i64.wrap ((i : Int) + 1) = (i : Int) + 1 := wrap_i64 (by omega) (by omega)
      have ha := hl l[i] (List.getElem_mem hlt)
      have rA := apR_all hlt
      revert ha rA
      generalize l[i] = a
      intro ha rA
      simp -implicitDefEqProofs -dsimp only [go_sem, reduceIte, Nat.reduceEqDiff, Nat.reduceAdd, Nat.reduceMul, Nat.reduceSub, Nat.reduceLT, Nat.reduceLeDiff, Nat.reduceBEq, Int.reduceLE, Int.reduceLT, Int.reduceEq, Int.reduceToNat, Int.reduceAdd, Int.reduceMul, Int.reduceSub, Int.reduceNeg, reduceCtorEq, if_true, if_false, hX, d, d2, rA]
      refine call_of_spec (hX ▸ (both_spec GL hG p hp a ha)) [2, 4] (by decide) (by simp) (by simp [BAD]) (by simp) (by simp only [Ap.c, push_cast, reduceIte, Nat.reduceEqDiff, Nat.reduceAdd, Nat.reduceMul, Nat.reduceSub, Nat.reduceLT, Nat.reduceLeDiff, Nat.reduceBEq, Int.reduceLE, Int.reduceLT, Int.reduceEq, Int.reduceToNat, Int.reduceAdd, Int.reduceMul, Int.reduceSub, Int.reduceNeg, reduceCtorEq, if_true, if_false]) (by simp only [Ap.c, push_cast, reduceIte, Nat.reduceEqDiff, Nat.reduceAdd, Nat.reduceMul, Nat.reduceSub, Nat.reduceLT, Nat.reduceLeDiff, Nat.reduceBEq, Int.reduceLE, Int.reduceLT, Int.reduceEq, Int.reduceToNat, Int.reduceAdd, Int.reduceMul, Int.reduceSub, Int.reduceNeg, reduceCtorEq, if_true, if_false]) ?_
      rintro v H ⟨rfl, rfl⟩ _
      simp only [push_cast, reduceIte, Nat.reduceEqDiff, Nat.reduceAdd, Nat.reduceMul, Nat.reduceSub, Nat.reduceLT, Nat.reduceLeDiff, Nat.reduceBEq, Int.reduceLE, Int.reduceLT, Int.reduceEq, Int.reduceToNat, Int.reduceAdd, Int.reduceMul, Int.reduceSub, Int.reduceNeg, reduceCtorEq, if_true, if_false]
      simp -implicitDefEqProofs -dsimp only [go_sem, reduceIte, Nat.reduceEqDiff, Nat.reduceAdd, Nat.reduceMul, Nat.reduceSub, Nat.reduceLT, Nat.reduceLeDiff, Nat.reduceBEq, Int.reduceLE, Int.reduceLT, Int.reduceEq, Int.reduceToNat, Int.reduceAdd, Int.reduceMul, Int.reduceSub, Int.reduceNeg, reduceCtorEq, if_true, if_false, hX, w]
      refine ⟨[0, 1, 2, 3, 4, 5], _, _, by rw [hXn]; rfl, by decide, by decide, ?_, ?_, l.length - (i + 1), by omega, i + 1, p.act a, rfl, by omega, PS.act_good hp a, rfl, rfl⟩
      · simp only [sl_f, push_cast, reduceIte, Nat.reduceEqDiff, Nat.reduceAdd, Nat.reduceMul, Nat.reduceSub, Nat.reduceLT, Nat.reduceLeDiff, Nat.reduceBEq, Int.reduceLE, Int.reduceLT, Int.reduceEq, Int.reduceToNat, Int.reduceAdd, Int.reduceMul, Int.reduceSub, Int.reduceNeg, reduceCtorEq, if_true, if_false]
      · simp only [sl_f, push_cast, reduceIte, Nat.reduceEqDiff, Nat.reduceAdd, Nat.reduceMul, Nat.reduceSub, Nat.reduceLT, Nat.reduceLeDiff, Nat.reduceBEq, Int.reduceLE, Int.reduceLT, Int.reduceEq, Int.reduceToNat, Int.reduceAdd, Int.reduceMul, Int.reduceSub, Int.reduceNeg, reduceCtorEq, if_true, if_false]
    have d : decide ((i : Int) < (l.length : Int)) = false := decide_eq_false (by omega)
    simp -implicitDefEqProofs -dsimp only [go_sem, reduceIte, Nat.reduceEqDiff, Nat.reduceAdd, Nat.reduceMul, Nat.reduceSub, Nat.reduceLT, Nat.reduceLeDiff, Nat.reduceBEq, Int.reduceLE, Int.reduceLT, Int.reduceEq, Int.reduceToNat, Int.reduceAdd, Int.reduceMul, Int.reduceSub, Int.reduceNeg, reduceCtorEq, if_true, if_false, hX, asSl_sl hn, d]
    refine ⟨fun t H k => ∃ (j : Nat) (q : PS), k = m.length - j ∧ j ≤ m.length ∧ q.good ∧ t = [(1, sl nil' 1 0 m.length cap'), (5, .pointer (some ⟨2, 0, none⟩)), (6, .pointer (some ⟨3, 0, none⟩)), (7, .pointer (some ⟨4, 0, none⟩)), (8, .pointer (some ⟨5, 0, none⟩)), (10, .int .i64 j)] ∧ H = [apR l, apR m, PB p, PB q, RP p, RP q], ?_, ?_⟩
    · refine ⟨[0, 1, 2, 3, 4, 5], _, _, by rw [hXn]; rfl, by decide, by decide, ?_, ?_, m.length - 0, 0, PS.zero, rfl, by omega, PS.zero_good, rfl, rfl⟩
      · simp only [push_cast, reduceIte, Nat.reduceEqDiff, Nat.reduceAdd, Nat.reduceMul, Nat.reduceSub, Nat.reduceLT, Nat.reduceLeDiff, Nat.reduceBEq, Int.reduceLE, Int.reduceLT, Int.reduceEq, Int.reduceToNat, Int.reduceAdd, Int.reduceMul, Int.reduceSub, Int.reduceNeg, reduceCtorEq, if_true, if_false]
      · simp only [push_cast, reduceIte, Nat.reduceEqDiff, Nat.reduceAdd, Nat.reduceMul, Nat.reduceSub, Nat.reduceLT, Nat.reduceLeDiff, Nat.reduceBEq, Int.reduceLE, Int.reduceLT, Int.reduceEq, Int.reduceToNat, Int.reduceAdd, Int.reduceMul, Int.reduceSub, Int.reduceNeg, reduceCtorEq, if_true, if_false]
    rintro t H k ⟨j, q, rfl, hj, hq, rfl, rfl⟩
    unfold law05_PlicSame.l14
    by_cases hlt' : j < m.length
    · have d' : decide ((j : Int) < (m.length : Int)) = true := decide_eq_true (by omega)
      obtain rfl : nil' = false := by
        cases nil'
        · rfl
        · have := (hn' rfl).1; omega
      have d2' : ((j : Int) < (m.length : Int)) = True := by simp; omega
      have w : IntKind.i64.wrap ((j : Int) + 1) = (j : Int) + 1 := wrap_i64 (by omega) (by omega)
      have ha := hm m[j] (List.getElem_mem hlt')
      have rA := apR_all hlt'
      revert ha rA
      generalize m[j] = a
      intro ha rA
      simp -implicitDefEqProofs -dsimp only [go_sem, reduceIte, Nat.reduceEqDiff, Nat.reduceAdd, Nat.reduceMul, Nat.reduceSub, Nat.reduceLT, Nat.reduceLeDiff, Nat.reduceBEq, Int.reduceLE, Int.reduceLT, Int.reduceEq, Int.reduceToNat, Int.reduceAdd, Int.reduceMul, Int.reduceSub, Int.reduceNeg, reduceCtorEq, if_true, if_false, hX, d', d2', rA]
      refine call_of_spec (hX ▸ (both_spec GL hG q hq a ha)) [3, 5] (by decide) (by simp) (by simp [BAD]) (by simp) (by simp only [Ap.c, push_cast, reduceIte, Nat.reduceEqDiff, Nat.reduceAdd, Nat.reduceMul, Nat.reduceSub, Nat.reduceLT, Nat.reduceLeDiff, Nat.reduceBEq, Int.reduceLE, Int.reduceLT, Int.reduceEq, Int.reduceToNat, Int.reduceAdd, Int.reduceMul, Int.reduceSub, Int.reduceNeg, reduceCtorEq, if_true, if_false]) (by simp only [Ap.c, push_cast, reduceIte, Nat.reduceEqDiff, Nat.reduceAdd, Nat.reduceMul, Nat.reduceSub, Nat.reduceLT, Nat.reduceLeDiff, Nat.reduceBEq, Int.reduceLE, Int.reduceLT, Int.reduceEq, Int.reduceToNat, Int.reduceAdd, Int.reduceMul, Int.reduceSub, Int.reduceNeg, reduceCtorEq, if_true, if_false]) ?_
      rintro v H ⟨rfl, rfl⟩ _
      simp only [push_cast, reduceIte, Nat.reduceEqDiff, Nat.reduceAdd, Nat.reduceMul, Nat.reduceSub, Nat.reduceLT, Nat.reduceLeDiff, Nat.reduceBEq, Int.reduceLE, Int.reduceLT, Int.reduceEq, Int.reduceToNat, Int.reduceAdd, Int.reduceMul, Int.reduceSub, Int.reduceNeg, reduceCtorEq, if_true, if_false]
      simp -implicitDefEqProofs -dsimp only [go_sem, reduceIte, Nat.reduceEqDiff, Nat.reduceAdd, Nat.reduceMul, Nat.reduceSub, Nat.reduceLT, Nat.reduceLeDiff, Nat.reduceBEq, Int.reduceLE, Int.reduceLT, Int.reduceEq, Int.reduceToNat, Int.reduceAdd, Int.reduceMul, Int.reduceSub, Int.reduceNeg, reduceCtorEq, if_true, if_false, hX, w]
      refine ⟨[0, 1, 2, 3, 4, 5], _, _, by rw [hXn]; rfl, by decide, by decide, ?_, ?_, m.length - (j + 1), by omega, j + 1, q.act a, rfl, by omega, PS.act_good hq a, rfl, rfl⟩
      · simp only [sl_f, push_cast, reduceIte, Nat.reduceEqDiff, Nat.reduceAdd, Nat.reduceMul, Nat.reduceSub, Nat.reduceLT, Nat.reduceLeDiff, Nat.reduceBEq, Int.reduceLE, Int.reduceLT, Int.reduceEq, Int.reduceToNat, Int.reduceAdd, Int.reduceMul, Int.reduceSub, Int.reduceNeg, reduceCtorEq, if_true, if_false]
      · simp only [sl_f, push_cast, reduceIte, Nat.reduceEqDiff, Nat.reduceAdd, Nat.reduceMul, Nat.reduceSub, Nat.reduceLT, Nat.reduceLeDiff, Nat.reduceBEq, Int.reduceLE, Int.reduceLT, Int.reduceEq, Int.reduceToNat, Int.reduceAdd, Int.reduceMul, Int.reduceSub, Int.reduceNeg, reduceCtorEq, if_true, if_false]
    have d' : decide ((j : Int) < (m.length : Int)) = false := decide_eq_false (by omega)
    simp -implicitDefEqProofs -dsimp only [go_sem, reduceIte, Nat.reduceEqDiff, Nat.reduceAdd, Nat.reduceMul, Nat.reduceSub, Nat.reduceLT, Nat.reduceLeDiff, Nat.reduceBEq, Int.reduceLE, Int.reduceLT, Int.reduceEq, Int.reduceToNat, Int.reduceAdd, Int.reduceMul, Int.reduceSub, Int.reduceNeg, reduceCtorEq, if_true, if_false, hX, asSl_sl hn', d']
    refine mix_intro [2, 3, 4, 5] ?_
    simp -implicitDefEqProofs -dsimp only [go_sem, reduceIte, Nat.reduceEqDiff, Nat.reduceAdd, Nat.reduceMul, Nat.reduceSub, Nat.reduceLT, Nat.reduceLeDiff, Nat.reduceBEq, Int.reduceLE, Int.reduceLT, Int.reduceEq, Int.reduceToNat, Int.reduceAdd, Int.reduceMul, Int.reduceSub, Int.reduceNeg, reduceCtorEq, if_true, if_false, hX, PB_all hp.took, PB_all hq.took, RP_all p, RP_all q]
    have heq : ∀ r r' : Bool, (r = true ↔ p = q) → (r' = true ↔ p = q) → decide (r = r') = true := by
      intro r r' h1 h2
      refine decide_eq_true ?_
      cases r <;> cases r' <;> simp_all
    refine req_intro ?_ (fun _ => ?_)
    · refine eqA hp.took hq.took rfl rfl (by decide) rfl rfl rfl rfl fun r hr => ?_
      simp -implicitDefEqProofs -dsimp only [go_sem, reduceIte, Nat.reduceEqDiff, Nat.reduceAdd, Nat.reduceMul, Nat.reduceSub, Nat.reduceLT, Nat.reduceLeDiff, Nat.reduceBEq, Int.reduceLE, Int.reduceLT, Int.reduceEq, Int.reduceToNat, Int.reduceAdd, Int.reduceMul, Int.reduceSub, Int.reduceNeg, reduceCtorEq, if_true, if_false, hX]
      refine eqB hp.took hq.took rfl rfl (by decide) rfl rfl rfl rfl fun r' hr' => ?_
      simp -implicitDefEqProofs -dsimp only [go_sem, reduceIte, Nat.reduceEqDiff, Nat.reduceAdd, Nat.reduceMul, Nat.reduceSub, Nat.reduceLT, Nat.reduceLeDiff, Nat.reduceBEq, Int.reduceLE, Int.reduceLT, Int.reduceEq, Int.reduceToNat, Int.reduceAdd, Int.reduceMul, Int.reduceSub, Int.reduceNeg, reduceCtorEq, if_true, if_false, hX, heq r r' hr hr']
    · refine eqB hp.took hq.took rfl rfl (by decide) rfl rfl rfl rfl fun r' hr' => ?_
      simp -implicitDefEqProofs -dsimp only [go_sem, reduceIte, Nat.reduceEqDiff, Nat.reduceAdd, Nat.reduceMul, Nat.reduceSub, Nat.reduceLT, Nat.reduceLeDiff, Nat.reduceBEq, Int.reduceLE, Int.reduceLT, Int.reduceEq, Int.reduceToNat, Int.reduceAdd, Int.reduceMul, Int.reduceSub, Int.reduceNeg, reduceCtorEq, if_true, if_false, hX]
      refine eqA hp.took hq.took rfl rfl (by decide) rfl rfl rfl rfl fun r hr => ?_
      simp -implicitDefEqProofs -dsimp only [go_sem, reduceIte, Nat.reduceEqDiff, Nat.reduceAdd, Nat.reduceMul, Nat.reduceSub, Nat.reduceLT, Nat.reduceLeDiff, Nat.reduceBEq, Int.reduceLE, Int.reduceLT, Int.reduceEq, Int.reduceToNat, Int.reduceAdd, Int.reduceMul, Int.reduceSub, Int.reduceNeg, reduceCtorEq, if_true, if_false, hX, heq r r' hr hr']
  exact fun _ _ => trivial
end Go.Proofs.YtbiaogehcnedmaaDoor
