/-
  The document's plic: lines, the best.
-/
import Derived.Test.YtbiaogehcnedmaaDoorPlG
set_option linter.unusedVariables false
set_option linter.unusedSimpArgs false
set_option maxRecDepth 100000
set_option maxHeartbeats 1000000
namespace Go.Proofs.YtbiaogehcnedmaaDoor
open Go Go.SX
theorem ndiff_or (n s : Nat) : ndiff n (2 ^ s) ||| 2 ^ s = n ||| 2 ^ s := by
  apply Nat.eq_of_testBit_eq
  intro j
  rw [Nat.testBit_or, testBit_ndiff, Nat.testBit_or]
  cases n.testBit j <;> cases (2 ^ s).testBit j <;> rfl
theorem level_set (p : PS) (s : Nat) (u : Bool) : p.level s u = PS.look { p with up := setBit p.up s u } s := by
  unfold PS.level setBit
  rw [ndiff_or]
theorem setBit_true (n s : Nat) : setBit n s true = n ||| 2 ^ s := rfl
theorem setBit_false (n s : Nat) : setBit n s false = ndiff n (2 ^ s) := rfl
theorem rlook_spec (GL : List (Nat × List Value)) (p : PS) (s : Nat) (hs : s < 32) : SX.Spec Tryd.prog GL 43 1 [.pointer (some ⟨0, 0, none⟩), .int .i64 s] [RP p] (fun v H => v = .tuple ⟨[]⟩ ∧ H = [RP (p.look s)]) := by
  refine spec_of_ev (fn := Tryd.f43) (by kernel_rfl) ref05_Plic_look.ok ref05_Plic_look.rok (Nat.le_of_ble_eq_true rfl) fun X hX hXn => ?_
  unfold ref05_Plic_look.ic ref05_Plic_look.rv
  have d : ((s : Int) < 32) = True := by simp; omega
  cases h1 : p.up.testBit s with
  | false =>
    simp -implicitDefEqProofs -dsimp only [go_sem, reduceIte, Nat.reduceEqDiff, Nat.reduceAdd, Nat.reduceMul, Nat.reduceSub, Nat.reduceLT, Nat.reduceLeDiff, Nat.reduceBEq, Int.reduceLE, Int.reduceLT, Int.reduceEq, Int.reduceToNat, Int.reduceAdd, Int.reduceMul, Int.reduceSub, Int.reduceNeg, reduceCtorEq, if_true, if_false, hX, d, RP_1 p hs, h1]
    rw [PS.look, h1]; rfl
  | true =>
    cases h2 : p.busy.testBit s with
    | true =>
      simp -implicitDefEqProofs -dsimp only [go_sem, reduceIte, Nat.reduceEqDiff, Nat.reduceAdd, Nat.reduceMul, Nat.reduceSub, Nat.reduceLT, Nat.reduceLeDiff, Nat.reduceBEq, Int.reduceLE, Int.reduceLT, Int.reduceEq, Int.reduceToNat, Int.reduceAdd, Int.reduceMul, Int.reduceSub, Int.reduceNeg, reduceCtorEq, if_true, if_false, hX, d, RP_1 p hs, RP_3 p hs, h1, h2]
      rw [PS.look, h1, h2]; rfl
    | false =>
      simp -implicitDefEqProofs -dsimp only [go_sem, reduceIte, Nat.reduceEqDiff, Nat.reduceAdd, Nat.reduceMul, Nat.reduceSub, Nat.reduceLT, Nat.reduceLeDiff, Nat.reduceBEq, Int.reduceLE, Int.reduceLT, Int.reduceEq, Int.reduceToNat, Int.reduceAdd, Int.reduceMul, Int.reduceSub, Int.reduceNeg, reduceCtorEq, if_true, if_false, hX, d, RP_1 p hs, RP_3 p hs, RP_w2 p hs, h1, h2]
      rw [PS.look, h1, h2, setBit_true]; rfl
theorem ris_spec (GL : List (Nat × List Value)) (s : Int) : SX.Spec Tryd.prog GL 40 0 [.int .i64 s] [] (fun v H => v = .bool (decide (1 ≤ s ∧ s ≤ 31)) ∧ H = []) := by
  refine spec_of_ev (fn := Tryd.f40) (by kernel_rfl) ref05_is.ok ref05_is.rok (Nat.le_of_ble_eq_true rfl) fun X hX hXn => ?_
  unfold ref05_is.ic ref05_is.rv
  simp -implicitDefEqProofs -dsimp only [go_sem, reduceIte, Nat.reduceEqDiff, Nat.reduceAdd, Nat.reduceMul, Nat.reduceSub, Nat.reduceLT, Nat.reduceLeDiff, Nat.reduceBEq, Int.reduceLE, Int.reduceLT, Int.reduceEq, Int.reduceToNat, Int.reduceAdd, Int.reduceMul, Int.reduceSub, Int.reduceNeg, reduceCtorEq, if_true, if_false, hX]
  refine brS_intro (fun h => ?_) (fun h => ?_) <;> simp -implicitDefEqProofs -dsimp only [go_sem, reduceIte, Nat.reduceEqDiff, Nat.reduceAdd, Nat.reduceMul, Nat.reduceSub, Nat.reduceLT, Nat.reduceLeDiff, Nat.reduceBEq, Int.reduceLE, Int.reduceLT, Int.reduceEq, Int.reduceToNat, Int.reduceAdd, Int.reduceMul, Int.reduceSub, Int.reduceNeg, reduceCtorEq, if_true, if_false, h, hX]
  · have : 1 ≤ s := by simpa using h
    simp [this]
  · have : ¬ 1 ≤ s := by simpa using h
    simp [this]
theorem rlevel_spec (GL : List (Nat × List Value)) (p : PS) (s : Int) (u : Bool) : SX.Spec Tryd.prog GL 37 1 [.pointer (some ⟨0, 0, none⟩), .int .i64 s, .bool u] [RP p] (fun v H => v = .bool (decide (1 ≤ s ∧ s ≤ 31)) ∧ H = [RP (if 1 ≤ s ∧ s ≤ 31 then p.level s.toNat u else p)]) := by
  refine spec_of_ev (fn := Tryd.f37) (by kernel_rfl) ref05_Plic_Level.ok ref05_Plic_Level.rok (Nat.le_of_ble_eq_true rfl) fun X hX hXn => ?_
  unfold ref05_Plic_Level.ic ref05_Plic_Level.rv
  simp -implicitDefEqProofs -dsimp only [go_sem, reduceIte, Nat.reduceEqDiff, Nat.reduceAdd, Nat.reduceMul, Nat.reduceSub, Nat.reduceLT, Nat.reduceLeDiff, Nat.reduceBEq, Int.reduceLE, Int.reduceLT, Int.reduceEq, Int.reduceToNat, Int.reduceAdd, Int.reduceMul, Int.reduceSub, Int.reduceNeg, reduceCtorEq, if_true, if_false, hX]
  refine call_leaf hX (ris_spec GL s) rfl rfl (by simp [BAD]) ?_
  by_cases h : 1 ≤ s ∧ s ≤ 31
  · obtain ⟨k, rfl⟩ := Int.eq_ofNat_of_zero_le (show 0 ≤ s by omega)
    have hk : k < 32 := by omega
    have e0 : decide (1 ≤ (k : Int) ∧ (k : Int) ≤ 31) = true := decide_eq_true h
    have d : ((k : Int) < 32) = True := by simp; omega
    simp -implicitDefEqProofs -dsimp only [go_sem, reduceIte, Nat.reduceEqDiff, Nat.reduceAdd, Nat.reduceMul, Nat.reduceSub, Nat.reduceLT, Nat.reduceLeDiff, Nat.reduceBEq, Int.reduceLE, Int.reduceLT, Int.reduceEq, Int.reduceToNat, Int.reduceAdd, Int.reduceMul, Int.reduceSub, Int.reduceNeg, reduceCtorEq, if_true, if_false, hX, e0, d, RP_w1 p hk]
    refine call_of_spec (hX ▸ (rlook_spec GL { p with up := setBit p.up k u } k hk)) [0] (by decide) (by simp) (by simp [BAD]) (by simp) (by simp only [push_cast, reduceIte, Nat.reduceEqDiff, Nat.reduceAdd, Nat.reduceMul, Nat.reduceSub, Nat.reduceLT, Nat.reduceLeDiff, Nat.reduceBEq, Int.reduceLE, Int.reduceLT, Int.reduceEq, Int.reduceToNat, Int.reduceAdd, Int.reduceMul, Int.reduceSub, Int.reduceNeg, reduceCtorEq, if_true, if_false]) (by simp only [push_cast, reduceIte, Nat.reduceEqDiff, Nat.reduceAdd, Nat.reduceMul, Nat.reduceSub, Nat.reduceLT, Nat.reduceLeDiff, Nat.reduceBEq, Int.reduceLE, Int.reduceLT, Int.reduceEq, Int.reduceToNat, Int.reduceAdd, Int.reduceMul, Int.reduceSub, Int.reduceNeg, reduceCtorEq, if_true, if_false]) ?_
    rintro v H ⟨rfl, rfl⟩ _
    simp only [push_cast, reduceIte, Nat.reduceEqDiff, Nat.reduceAdd, Nat.reduceMul, Nat.reduceSub, Nat.reduceLT, Nat.reduceLeDiff, Nat.reduceBEq, Int.reduceLE, Int.reduceLT, Int.reduceEq, Int.reduceToNat, Int.reduceAdd, Int.reduceMul, Int.reduceSub, Int.reduceNeg, reduceCtorEq, if_true, if_false]
    simp -implicitDefEqProofs -dsimp only [go_sem, reduceIte, Nat.reduceEqDiff, Nat.reduceAdd, Nat.reduceMul, Nat.reduceSub, Nat.reduceLT, Nat.reduceLeDiff, Nat.reduceBEq, Int.reduceLE, Int.reduceLT, Int.reduceEq, Int.reduceToNat, Int.reduceAdd, Int.reduceMul, Int.reduceSub, Int.reduceNeg, reduceCtorEq, if_true, if_false, hX]
    rw [if_pos h, level_set]
    try rfl
  · have e0 : decide (1 ≤ s ∧ s ≤ 31) = false := decide_eq_false h
    simp -implicitDefEqProofs -dsimp only [go_sem, reduceIte, Nat.reduceEqDiff, Nat.reduceAdd, Nat.reduceMul, Nat.reduceSub, Nat.reduceLT, Nat.reduceLeDiff, Nat.reduceBEq, Int.reduceLE, Int.reduceLT, Int.reduceEq, Int.reduceToNat, Int.reduceAdd, Int.reduceMul, Int.reduceSub, Int.reduceNeg, reduceCtorEq, if_true, if_false, hX, e0]
    rw [if_neg h]
theorem rup_spec (GL : List (Nat × List Value)) (p : PS) (s : Int) : SX.Spec Tryd.prog GL 23 0 [.agg ⟨RC p⟩, .int .i64 s] [] (fun v H => v = .bool (p.isUp s) ∧ H = []) := by
  refine spec_sel (R := fun v H => v = .bool (p.isUp s)) ?_ ?_
  · refine spec_of_ev (fn := Tryd.f23) (by kernel_rfl) ref05_Plic_Up.ok ref05_Plic_Up.rok (Nat.le_of_ble_eq_true rfl) fun X hX hXn => ?_
    unfold ref05_Plic_Up.ic ref05_Plic_Up.rv
    simp -implicitDefEqProofs -dsimp only [go_sem, reduceIte, Nat.reduceEqDiff, Nat.reduceAdd, Nat.reduceMul, Nat.reduceSub, Nat.reduceLT, Nat.reduceLeDiff, Nat.reduceBEq, Int.reduceLE, Int.reduceLT, Int.reduceEq, Int.reduceToNat, Int.reduceAdd, Int.reduceMul, Int.reduceSub, Int.reduceNeg, reduceCtorEq, if_true, if_false, hX, mk_RC p]
    refine call_leaf hX (ris_spec GL s) rfl rfl (by simp [BAD]) ?_
    by_cases h : 1 ≤ s ∧ s ≤ 31
    · have e0 : decide (1 ≤ s ∧ s ≤ 31) = true := decide_eq_true h
      obtain ⟨k, rfl⟩ := Int.eq_ofNat_of_zero_le (show 0 ≤ s by omega)
      have hk : k < 32 := by omega
      have d : ((k : Int) < 32) = True := by simp; omega
      simp -implicitDefEqProofs -dsimp only [go_sem, reduceIte, Nat.reduceEqDiff, Nat.reduceAdd, Nat.reduceMul, Nat.reduceSub, Nat.reduceLT, Nat.reduceLeDiff, Nat.reduceBEq, Int.reduceLE, Int.reduceLT, Int.reduceEq, Int.reduceToNat, Int.reduceAdd, Int.reduceMul, Int.reduceSub, Int.reduceNeg, reduceCtorEq, if_true, if_false, hX, e0, d, RP_1 p hk]
      simp [PS.isUp, h]
    · have e0 : decide (1 ≤ s ∧ s ≤ 31) = false := decide_eq_false h
      simp -implicitDefEqProofs -dsimp only [go_sem, reduceIte, Nat.reduceEqDiff, Nat.reduceAdd, Nat.reduceMul, Nat.reduceSub, Nat.reduceLT, Nat.reduceLeDiff, Nat.reduceBEq, Int.reduceLE, Int.reduceLT, Int.reduceEq, Int.reduceToNat, Int.reduceAdd, Int.reduceMul, Int.reduceSub, Int.reduceNeg, reduceCtorEq, if_true, if_false, hX, e0]
      simp [PS.isUp, e0]
  · rintro v H rfl
    exact ⟨[], _, [], rfl, by decide, by simp, by simp [selH], rfl, rfl, rfl⟩
theorem rbest_loop {GL : List (Nat × List Value)} {X : Cx} (hX : X.GL = GL) (hXn : X.n = 0) (p : PS) (hp : p.good) (c : Int) (hc : c = 0 ∨ c = 1) (N : Nat) {Q : Exit → Env → List SB → Prop}
    (hQ : ∀ t, SX.get t 5 = .int .i64 (p.best c : Nat) → Q (.exit 0) t [RP p]) : LoopK X (ev X N Tryd.prog ref05_Plic_Best.l5) [(1, .int .i64 c), (2, .pointer (some ⟨0, 0, none⟩)), (5, .int .i64 0), (6, .int .i64 31)] [RP p] Q := by
  have d3 : (0 ≤ c) = True := by simp; omega
  have d4 : (c < 2) = True := by simp; omega
  have e1 : ∀ i, i < 32 → rd (some (RP p)) (i * 6 + 4 + c.toNat) = some (.bool ((p.on c).testBit i)) := by
    intro i hi
    rcases hc with rfl | rfl
    · exact RP_4 p hi
    · exact RP_5 p hi
  have hbest := PS.best_is hp hc
  refine ⟨fun t H m => ∃ (i b : Nat), i ≤ 31 ∧ m = i ∧ IsB (fun j => p.pend.testBit j && (p.on c).testBit j) (fun j => p.prio.getD j 0) (i + 1) 32 b ∧
    t = [(1, .int .i64 c), (2, .pointer (some ⟨0, 0, none⟩)), (5, .int .i64 b), (6, .int .i64 i)] ∧ H = [RP p], ?_, ?_⟩
  · refine ⟨[0], _, _, by rw [hXn]; rfl, by decide, by decide, ?_, ?_, _, 31, 0, by omega, rfl, .inl ⟨rfl, fun j h1 h2 => by omega⟩, rfl, rfl⟩
    · simp only [push_cast, reduceIte, Nat.reduceEqDiff, Nat.reduceAdd, Nat.reduceMul, Nat.reduceSub, Nat.reduceLT, Nat.reduceLeDiff, Nat.reduceBEq, Int.reduceLE, Int.reduceLT, Int.reduceEq, Int.reduceToNat, Int.reduceAdd, Int.reduceMul, Int.reduceSub, Int.reduceNeg, reduceCtorEq, if_true, if_false]
    · simp only [push_cast, reduceIte, Nat.reduceEqDiff, Nat.reduceAdd, Nat.reduceMul, Nat.reduceSub, Nat.reduceLT, Nat.reduceLeDiff, Nat.reduceBEq, Int.reduceLE, Int.reduceLT, Int.reduceEq, Int.reduceToNat, Int.reduceAdd, Int.reduceMul, Int.reduceSub, Int.reduceNeg, reduceCtorEq, if_true, if_false]
  rintro t H i ⟨_, b, hi, rfl, hIs, rfl, rfl⟩
  unfold ref05_Plic_Best.l5
  by_cases h0 : i = 0
  · subst h0
    simp -implicitDefEqProofs -dsimp only [go_sem, reduceIte, Nat.reduceEqDiff, Nat.reduceAdd, Nat.reduceMul, Nat.reduceSub, Nat.reduceLT, Nat.reduceLeDiff, Nat.reduceBEq, Int.reduceLE, Int.reduceLT, Int.reduceEq, Int.reduceToNat, Int.reduceAdd, Int.reduceMul, Int.reduceSub, Int.reduceNeg, reduceCtorEq, if_true, if_false, hX]
    refine hQ _ ?_
    rw [hIs.unique (by omega) hbest]
    rfl
  · have d : decide ((1 : Int) ≤ (i : Int)) = true := decide_eq_true (by omega)
    have di : ((i : Int) < 32) = True := by simp; omega
    have hi32 : i < 32 := by omega
    have hb32 : b < 32 := by rcases hIs with ⟨rfl, _⟩ | ⟨_, h, _⟩ <;> omega
    have db : ((b : Int) < 32) = True := by simp; omega
    have w : IntKind.i64.wrap ((i : Int) - 1) = ((i - 1 : Nat) : Int) := by
      rw [show (i : Int) - 1 = ((i - 1 : Nat) : Int) by omega]; exact wrap_i64 (by omega) (by omega)
    have hd := hIs.down (by omega) (by omega)
    simp -implicitDefEqProofs -dsimp only [go_sem, reduceIte, Nat.reduceEqDiff, Nat.reduceAdd, Nat.reduceMul, Nat.reduceSub, Nat.reduceLT, Nat.reduceLeDiff, Nat.reduceBEq, Int.reduceLE, Int.reduceLT, Int.reduceEq, Int.reduceToNat, Int.reduceAdd, Int.reduceMul, Int.reduceSub, Int.reduceNeg, reduceCtorEq, if_true, if_false, hX, d]
    refine mix_intro [0] ?_
    simp -implicitDefEqProofs -dsimp only [go_sem, reduceIte, Nat.reduceEqDiff, Nat.reduceAdd, Nat.reduceMul, Nat.reduceSub, Nat.reduceLT, Nat.reduceLeDiff, Nat.reduceBEq, Int.reduceLE, Int.reduceLT, Int.reduceEq, Int.reduceToNat, Int.reduceAdd, Int.reduceMul, Int.reduceSub, Int.reduceNeg, reduceCtorEq, if_true, if_false, hX, di, RP_2 p hi32]
    cases h1 : p.pend.testBit i with
    | false =>
      rw [h1] at hd
      simp only [Bool.false_and, Bool.false_eq_true, if_false] at hd
      simp -implicitDefEqProofs -dsimp only [go_sem, reduceIte, Nat.reduceEqDiff, Nat.reduceAdd, Nat.reduceMul, Nat.reduceSub, Nat.reduceLT, Nat.reduceLeDiff, Nat.reduceBEq, Int.reduceLE, Int.reduceLT, Int.reduceEq, Int.reduceToNat, Int.reduceAdd, Int.reduceMul, Int.reduceSub, Int.reduceNeg, reduceCtorEq, if_true, if_false, hX, w]
      refine ⟨[0], _, _, by rw [hXn]; rfl, by decide, by decide, ?_, ?_, _, by omega, i - 1, b, by omega, rfl, by rw [show i - 1 + 1 = i by omega]; exact hd, rfl, rfl⟩
      · simp only [push_cast, reduceIte, Nat.reduceEqDiff, Nat.reduceAdd, Nat.reduceMul, Nat.reduceSub, Nat.reduceLT, Nat.reduceLeDiff, Nat.reduceBEq, Int.reduceLE, Int.reduceLT, Int.reduceEq, Int.reduceToNat, Int.reduceAdd, Int.reduceMul, Int.reduceSub, Int.reduceNeg, reduceCtorEq, if_true, if_false]
      · simp only [push_cast, reduceIte, Nat.reduceEqDiff, Nat.reduceAdd, Nat.reduceMul, Nat.reduceSub, Nat.reduceLT, Nat.reduceLeDiff, Nat.reduceBEq, Int.reduceLE, Int.reduceLT, Int.reduceEq, Int.reduceToNat, Int.reduceAdd, Int.reduceMul, Int.reduceSub, Int.reduceNeg, reduceCtorEq, if_true, if_false]
    | true =>
      simp -implicitDefEqProofs -dsimp only [go_sem, reduceIte, Nat.reduceEqDiff, Nat.reduceAdd, Nat.reduceMul, Nat.reduceSub, Nat.reduceLT, Nat.reduceLeDiff, Nat.reduceBEq, Int.reduceLE, Int.reduceLT, Int.reduceEq, Int.reduceToNat, Int.reduceAdd, Int.reduceMul, Int.reduceSub, Int.reduceNeg, reduceCtorEq, if_true, if_false, hX, di, d3, d4, e1 i hi32]
      cases h2 : (p.on c).testBit i with
      | false =>
        rw [h1, h2] at hd
        simp only [Bool.and_false, Bool.false_and, Bool.false_eq_true, if_false] at hd
        simp -implicitDefEqProofs -dsimp only [go_sem, reduceIte, Nat.reduceEqDiff, Nat.reduceAdd, Nat.reduceMul, Nat.reduceSub, Nat.reduceLT, Nat.reduceLeDiff, Nat.reduceBEq, Int.reduceLE, Int.reduceLT, Int.reduceEq, Int.reduceToNat, Int.reduceAdd, Int.reduceMul, Int.reduceSub, Int.reduceNeg, reduceCtorEq, if_true, if_false, hX, w]
        refine ⟨[0], _, _, by rw [hXn]; rfl, by decide, by decide, ?_, ?_, _, by omega, i - 1, b, by omega, rfl, by rw [show i - 1 + 1 = i by omega]; exact hd, rfl, rfl⟩
        · simp only [push_cast, reduceIte, Nat.reduceEqDiff, Nat.reduceAdd, Nat.reduceMul, Nat.reduceSub, Nat.reduceLT, Nat.reduceLeDiff, Nat.reduceBEq, Int.reduceLE, Int.reduceLT, Int.reduceEq, Int.reduceToNat, Int.reduceAdd, Int.reduceMul, Int.reduceSub, Int.reduceNeg, reduceCtorEq, if_true, if_false]
        · simp only [push_cast, reduceIte, Nat.reduceEqDiff, Nat.reduceAdd, Nat.reduceMul, Nat.reduceSub, Nat.reduceLT, Nat.reduceLeDiff, Nat.reduceBEq, Int.reduceLE, Int.reduceLT, Int.reduceEq, Int.reduceToNat, Int.reduceAdd, Int.reduceMul, Int.reduceSub, Int.reduceNeg, reduceCtorEq, if_true, if_false]
      | true =>
        rw [h1, h2] at hd
        simp only [Bool.true_and] at hd
        by_cases h3 : 0 < p.prio.getD i 0
        · have d5 : decide ((0 : Int) < ((p.prio.getD i 0 : Nat) : Int)) = true := decide_eq_true (by omega)
          rw [decide_eq_true h3] at hd
          simp only [Bool.true_and] at hd
          by_cases h4 : b = 0
          · subst h4
            simp only [decide_true, Bool.true_or, if_true] at hd
            simp -implicitDefEqProofs -dsimp only [go_sem, reduceIte, Nat.reduceEqDiff, Nat.reduceAdd, Nat.reduceMul, Nat.reduceSub, Nat.reduceLT, Nat.reduceLeDiff, Nat.reduceBEq, Int.reduceLE, Int.reduceLT, Int.reduceEq, Int.reduceToNat, Int.reduceAdd, Int.reduceMul, Int.reduceSub, Int.reduceNeg, reduceCtorEq, if_true, if_false, hX, di, RP_0 p hi32, d5, w]
            refine ⟨[0], _, _, by rw [hXn]; rfl, by decide, by decide, ?_, ?_, _, by omega, i - 1, i, by omega, rfl, by rw [show i - 1 + 1 = i by omega]; exact hd, rfl, rfl⟩
            · simp only [push_cast, reduceIte, Nat.reduceEqDiff, Nat.reduceAdd, Nat.reduceMul, Nat.reduceSub, Nat.reduceLT, Nat.reduceLeDiff, Nat.reduceBEq, Int.reduceLE, Int.reduceLT, Int.reduceEq, Int.reduceToNat, Int.reduceAdd, Int.reduceMul, Int.reduceSub, Int.reduceNeg, reduceCtorEq, if_true, if_false]
            · simp only [push_cast, reduceIte, Nat.reduceEqDiff, Nat.reduceAdd, Nat.reduceMul, Nat.reduceSub, Nat.reduceLT, Nat.reduceLeDiff, Nat.reduceBEq, Int.reduceLE, Int.reduceLT, Int.reduceEq, Int.reduceToNat, Int.reduceAdd, Int.reduceMul, Int.reduceSub, Int.reduceNeg, reduceCtorEq, if_true, if_false]
          · have d6 : decide ((b : Int) = 0) = false := decide_eq_false (by omega)
            rw [decide_eq_false h4] at hd
            simp only [Bool.false_or] at hd
            by_cases h5 : p.prio.getD b 0 ≤ p.prio.getD i 0
            · have d7 : decide (((p.prio.getD b 0 : Nat) : Int) ≤ ((p.prio.getD i 0 : Nat) : Int)) = true := decide_eq_true (by omega)
              rw [decide_eq_true h5] at hd
              simp only [if_true] at hd
              simp -implicitDefEqProofs -dsimp only [go_sem, reduceIte, Nat.reduceEqDiff, Nat.reduceAdd, Nat.reduceMul, Nat.reduceSub, Nat.reduceLT, Nat.reduceLeDiff, Nat.reduceBEq, Int.reduceLE, Int.reduceLT, Int.reduceEq, Int.reduceToNat, Int.reduceAdd, Int.reduceMul, Int.reduceSub, Int.reduceNeg, reduceCtorEq, if_true, if_false, hX, di, db, RP_0 p hi32, RP_0 p hb32, d5, d6, d7, w]
              refine ⟨[0], _, _, by rw [hXn]; rfl, by decide, by decide, ?_, ?_, _, by omega, i - 1, i, by omega, rfl, by rw [show i - 1 + 1 = i by omega]; exact hd, rfl, rfl⟩
              · simp only [push_cast, reduceIte, Nat.reduceEqDiff, Nat.reduceAdd, Nat.reduceMul, Nat.reduceSub, Nat.reduceLT, Nat.reduceLeDiff, Nat.reduceBEq, Int.reduceLE, Int.reduceLT, Int.reduceEq, Int.reduceToNat, Int.reduceAdd, Int.reduceMul, Int.reduceSub, Int.reduceNeg, reduceCtorEq, if_true, if_false]
              · simp only [push_cast, reduceIte, Nat.reduceEqDiff, Nat.reduceAdd, Nat.reduceMul, Nat.reduceSub, Nat.reduceLT, Nat.reduceLeDiff, Nat.reduceBEq, Int.reduceLE, Int.reduceLT, Int.reduceEq, Int.reduceToNat, Int.reduceAdd, Int.reduceMul, Int.reduceSub, Int.reduceNeg, reduceCtorEq, if_true, if_false]
            · have d7 : decide (((p.prio.getD b 0 : Nat) : Int) ≤ ((p.prio.getD i 0 : Nat) : Int)) = false := decide_eq_false (by omega)
              rw [decide_eq_false h5] at hd
              simp only [Bool.false_eq_true, if_false] at hd
              simp -implicitDefEqProofs -dsimp only [go_sem, reduceIte, Nat.reduceEqDiff, Nat.reduceAdd, Nat.reduceMul, Nat.reduceSub, Nat.reduceLT, Nat.reduceLeDiff, Nat.reduceBEq, Int.reduceLE, Int.reduceLT, Int.reduceEq, Int.reduceToNat, Int.reduceAdd, Int.reduceMul, Int.reduceSub, Int.reduceNeg, reduceCtorEq, if_true, if_false, hX, di, db, RP_0 p hi32, RP_0 p hb32, d5, d6, d7, w]
              refine ⟨[0], _, _, by rw [hXn]; rfl, by decide, by decide, ?_, ?_, _, by omega, i - 1, b, by omega, rfl, by rw [show i - 1 + 1 = i by omega]; exact hd, rfl, rfl⟩
              · simp only [push_cast, reduceIte, Nat.reduceEqDiff, Nat.reduceAdd, Nat.reduceMul, Nat.reduceSub, Nat.reduceLT, Nat.reduceLeDiff, Nat.reduceBEq, Int.reduceLE, Int.reduceLT, Int.reduceEq, Int.reduceToNat, Int.reduceAdd, Int.reduceMul, Int.reduceSub, Int.reduceNeg, reduceCtorEq, if_true, if_false]
              · simp only [push_cast, reduceIte, Nat.reduceEqDiff, Nat.reduceAdd, Nat.reduceMul, Nat.reduceSub, Nat.reduceLT, Nat.reduceLeDiff, Nat.reduceBEq, Int.reduceLE, Int.reduceLT, Int.reduceEq, Int.reduceToNat, Int.reduceAdd, Int.reduceMul, Int.reduceSub, Int.reduceNeg, reduceCtorEq, if_true, if_false]
        · have d5 : decide ((0 : Int) < ((p.prio.getD i 0 : Nat) : Int)) = false := decide_eq_false (by omega)
          rw [decide_eq_false h3] at hd
          simp only [Bool.false_and, Bool.false_eq_true, if_false] at hd
          simp -implicitDefEqProofs -dsimp only [go_sem, reduceIte, Nat.reduceEqDiff, Nat.reduceAdd, Nat.reduceMul, Nat.reduceSub, Nat.reduceLT, Nat.reduceLeDiff, Nat.reduceBEq, Int.reduceLE, Int.reduceLT, Int.reduceEq, Int.reduceToNat, Int.reduceAdd, Int.reduceMul, Int.reduceSub, Int.reduceNeg, reduceCtorEq, if_true, if_false, hX, di, RP_0 p hi32, d5, w]
          refine ⟨[0], _, _, by rw [hXn]; rfl, by decide, by decide, ?_, ?_, _, by omega, i - 1, b, by omega, rfl, by rw [show i - 1 + 1 = i by omega]; exact hd, rfl, rfl⟩
          · simp only [push_cast, reduceIte, Nat.reduceEqDiff, Nat.reduceAdd, Nat.reduceMul, Nat.reduceSub, Nat.reduceLT, Nat.reduceLeDiff, Nat.reduceBEq, Int.reduceLE, Int.reduceLT, Int.reduceEq, Int.reduceToNat, Int.reduceAdd, Int.reduceMul, Int.reduceSub, Int.reduceNeg, reduceCtorEq, if_true, if_false]
          · simp only [push_cast, reduceIte, Nat.reduceEqDiff, Nat.reduceAdd, Nat.reduceMul, Nat.reduceSub, Nat.reduceLT, Nat.reduceLeDiff, Nat.reduceBEq, Int.reduceLE, Int.reduceLT, Int.reduceEq, Int.reduceToNat, Int.reduceAdd, Int.reduceMul, Int.reduceSub, Int.reduceNeg, reduceCtorEq, if_true, if_false]
theorem rbest_spec (GL : List (Nat × List Value)) (p : PS) (hp : p.good) (c : Int) : SX.Spec Tryd.prog GL 19 0 [.agg ⟨RC p⟩, .int .i64 c] [] (fun v H => v = .int .i64 (p.best c) ∧ H = []) := by
  refine spec_sel (R := fun v H => v = .int .i64 (p.best c)) ?_ ?_
  · refine spec_of_ev (fn := Tryd.f19) (by kernel_rfl) ref05_Plic_Best.ok ref05_Plic_Best.rok (Nat.le_of_ble_eq_true rfl) fun X hX hXn => ?_
    unfold ref05_Plic_Best.ic ref05_Plic_Best.rv
    by_cases h0 : c = 0
    · have d : decide (c = 0) = true := decide_eq_true h0
      simp -implicitDefEqProofs -dsimp only [go_sem, reduceIte, Nat.reduceEqDiff, Nat.reduceAdd, Nat.reduceMul, Nat.reduceSub, Nat.reduceLT, Nat.reduceLeDiff, Nat.reduceBEq, Int.reduceLE, Int.reduceLT, Int.reduceEq, Int.reduceToNat, Int.reduceAdd, Int.reduceMul, Int.reduceSub, Int.reduceNeg, reduceCtorEq, if_true, if_false, hX, d, mk_RC p]
      refine rbest_loop hX hXn p hp c (.inl h0) _ fun t ht => ?_
      simp -implicitDefEqProofs -dsimp only [go_sem, reduceIte, Nat.reduceEqDiff, Nat.reduceAdd, Nat.reduceMul, Nat.reduceSub, Nat.reduceLT, Nat.reduceLeDiff, Nat.reduceBEq, Int.reduceLE, Int.reduceLT, Int.reduceEq, Int.reduceToNat, Int.reduceAdd, Int.reduceMul, Int.reduceSub, Int.reduceNeg, reduceCtorEq, if_true, if_false, hX, ht]
    · have d : decide (c = 0) = false := decide_eq_false h0
      by_cases h1 : c = 1
      · have d1 : decide (c = 1) = true := decide_eq_true h1
        simp -implicitDefEqProofs -dsimp only [go_sem, reduceIte, Nat.reduceEqDiff, Nat.reduceAdd, Nat.reduceMul, Nat.reduceSub, Nat.reduceLT, Nat.reduceLeDiff, Nat.reduceBEq, Int.reduceLE, Int.reduceLT, Int.reduceEq, Int.reduceToNat, Int.reduceAdd, Int.reduceMul, Int.reduceSub, Int.reduceNeg, reduceCtorEq, if_true, if_false, hX, d, d1, mk_RC p]
        refine rbest_loop hX hXn p hp c (.inr h1) _ fun t ht => ?_
        simp -implicitDefEqProofs -dsimp only [go_sem, reduceIte, Nat.reduceEqDiff, Nat.reduceAdd, Nat.reduceMul, Nat.reduceSub, Nat.reduceLT, Nat.reduceLeDiff, Nat.reduceBEq, Int.reduceLE, Int.reduceLT, Int.reduceEq, Int.reduceToNat, Int.reduceAdd, Int.reduceMul, Int.reduceSub, Int.reduceNeg, reduceCtorEq, if_true, if_false, hX, ht]
      · have d1 : decide (c = 1) = false := decide_eq_false h1
        have e : p.best c = 0 := by rw [PS.best, if_neg (by omega)]
        rw [e]
        simp -implicitDefEqProofs -dsimp only [go_sem, reduceIte, Nat.reduceEqDiff, Nat.reduceAdd, Nat.reduceMul, Nat.reduceSub, Nat.reduceLT, Nat.reduceLeDiff, Nat.reduceBEq, Int.reduceLE, Int.reduceLT, Int.reduceEq, Int.reduceToNat, Int.reduceAdd, Int.reduceMul, Int.reduceSub, Int.reduceNeg, reduceCtorEq, if_true, if_false, hX, d, d1, mk_RC p]
  · rintro v H rfl
    exact ⟨[], _, [], rfl, by decide, by simp, by simp [selH], rfl, rfl, rfl⟩
theorem rline_spec (GL : List (Nat × List Value)) (p : PS) (hp : p.good) (c : Int) : SX.Spec Tryd.prog GL 21 0 [.agg ⟨RC p⟩, .int .i64 c] [] (fun v H => v = .bool (p.line c) ∧ H = []) := by
  refine spec_sel (R := fun v H => v = .bool (p.line c)) ?_ ?_
  · refine spec_of_ev (fn := Tryd.f21) (by kernel_rfl) ref05_Plic_Line.ok ref05_Plic_Line.rok (Nat.le_of_ble_eq_true rfl) fun X hX hXn => ?_
    unfold ref05_Plic_Line.ic ref05_Plic_Line.rv
    simp -implicitDefEqProofs -dsimp only [go_sem, reduceIte, Nat.reduceEqDiff, Nat.reduceAdd, Nat.reduceMul, Nat.reduceSub, Nat.reduceLT, Nat.reduceLeDiff, Nat.reduceBEq, Int.reduceLE, Int.reduceLT, Int.reduceEq, Int.reduceToNat, Int.reduceAdd, Int.reduceMul, Int.reduceSub, Int.reduceNeg, reduceCtorEq, if_true, if_false, hX, mk_RC p, RP_all p]
    refine call_of_spec (hX ▸ (rbest_spec GL p hp c)) [] (by decide) (by simp) (by simp [BAD]) (by simp) (by simp only [push_cast, reduceIte, Nat.reduceEqDiff, Nat.reduceAdd, Nat.reduceMul, Nat.reduceSub, Nat.reduceLT, Nat.reduceLeDiff, Nat.reduceBEq, Int.reduceLE, Int.reduceLT, Int.reduceEq, Int.reduceToNat, Int.reduceAdd, Int.reduceMul, Int.reduceSub, Int.reduceNeg, reduceCtorEq, if_true, if_false]) (by simp only [push_cast, reduceIte, Nat.reduceEqDiff, Nat.reduceAdd, Nat.reduceMul, Nat.reduceSub, Nat.reduceLT, Nat.reduceLeDiff, Nat.reduceBEq, Int.reduceLE, Int.reduceLT, Int.reduceEq, Int.reduceToNat, Int.reduceAdd, Int.reduceMul, Int.reduceSub, Int.reduceNeg, reduceCtorEq, if_true, if_false]) ?_
    rintro v H ⟨rfl, rfl⟩ _
    simp only [push_cast, reduceIte, Nat.reduceEqDiff, Nat.reduceAdd, Nat.reduceMul, Nat.reduceSub, Nat.reduceLT, Nat.reduceLeDiff, Nat.reduceBEq, Int.reduceLE, Int.reduceLT, Int.reduceEq, Int.reduceToNat, Int.reduceAdd, Int.reduceMul, Int.reduceSub, Int.reduceNeg, reduceCtorEq, if_true, if_false]
    simp -implicitDefEqProofs -dsimp only [go_sem, reduceIte, Nat.reduceEqDiff, Nat.reduceAdd, Nat.reduceMul, Nat.reduceSub, Nat.reduceLT, Nat.reduceLeDiff, Nat.reduceBEq, Int.reduceLE, Int.reduceLT, Int.reduceEq, Int.reduceToNat, Int.reduceAdd, Int.reduceMul, Int.reduceSub, Int.reduceNeg, reduceCtorEq, if_true, if_false, hX]
    refine mix_intro [0] ?_
    by_cases h : 0 < p.best c
    · have d : decide ((0 : Int) < (p.best c : Int)) = true := decide_eq_true (by omega)
      have hb := p.best_lt hp.took c
      have d2 : ((p.best c : Int) < 32) = True := by simp; omega
      have hc := PS.best_ctx h
      have d3 : (0 ≤ c) = True := by simp; omega
      have d4 : (c < 2) = True := by simp; omega
      have e1 : rd (some (RP p)) (192 + c.toNat) = some (.int .u64 (p.fl c)) := by
        have : c = 0 ∨ c = 1 := by omega
        rcases this with rfl | rfl
        · exact RP_f0 p
        · exact RP_f1 p
      simp -implicitDefEqProofs -dsimp only [go_sem, reduceIte, Nat.reduceEqDiff, Nat.reduceAdd, Nat.reduceMul, Nat.reduceSub, Nat.reduceLT, Nat.reduceLeDiff, Nat.reduceBEq, Int.reduceLE, Int.reduceLT, Int.reduceEq, Int.reduceToNat, Int.reduceAdd, Int.reduceMul, Int.reduceSub, Int.reduceNeg, reduceCtorEq, if_true, if_false, hX, d, d2, d3, d4, e1, RP_0 p hb]
      simp [PS.line, h]
    · have d : decide ((0 : Int) < (p.best c : Int)) = false := decide_eq_false (by omega)
      simp -implicitDefEqProofs -dsimp only [go_sem, reduceIte, Nat.reduceEqDiff, Nat.reduceAdd, Nat.reduceMul, Nat.reduceSub, Nat.reduceLT, Nat.reduceLeDiff, Nat.reduceBEq, Int.reduceLE, Int.reduceLT, Int.reduceEq, Int.reduceToNat, Int.reduceAdd, Int.reduceMul, Int.reduceSub, Int.reduceNeg, reduceCtorEq, if_true, if_false, hX, d]
      simp [PS.line, h]
  · rintro v H rfl
    exact ⟨[], _, [], rfl, by decide, by simp, by simp [selH], rfl, rfl, rfl⟩
end Go.Proofs.YtbiaogehcnedmaaDoor
