/-
  The document's plic: its places, read.
-/
import Derived.Test.YtbiaogehcnedmaaDoorPlH
set_option linter.unusedVariables false
set_option linter.unusedSimpArgs false
set_option maxRecDepth 100000
set_option maxHeartbeats 4000000
namespace Go.Proofs.YtbiaogehcnedmaaDoor
open Go Go.SX
theorem wl0 : IntKind.u64.wrap 0 = 0 := rfl
theorem wl1 : IntKind.u64.wrap 1 = 1 := rfl
theorem wl2 : IntKind.u64.wrap 128 = 128 := rfl
theorem wl3 : IntKind.u64.wrap 4096 = 4096 := rfl
theorem wl4 : IntKind.u64.wrap 8192 = 8192 := rfl
theorem wl5 : IntKind.u64.wrap 8320 = 8320 := rfl
theorem wl6 : IntKind.u64.wrap 2097152 = 2097152 := rfl
theorem wl7 : IntKind.u64.wrap 2101248 = 2101248 := rfl
theorem wl8 : IntKind.u64.wrap 2097156 = 2097156 := rfl
theorem wl9 : IntKind.u64.wrap 2101252 = 2101252 := rfl
theorem wi1 : IntKind.i64.wrap 1 = 1 := rfl
theorem wi2 : IntKind.i64.wrap 2 = 2 := rfl
attribute [go_sem] wl0 wl1 wl2 wl3 wl4 wl5 wl6 wl7 wl8 wl9 wi1 wi2
theorem half (n i : Nat) : n / 2 ^ i = 2 * (n / 2 ^ (i + 1)) + (n.testBit i).toNat := by
  have h1 : n / 2 ^ (i + 1) = n / 2 ^ i / 2 := by rw [Nat.pow_succ, Nat.div_div_eq_div_mul]
  have h2 := and_one_testBit n i
  rw [Nat.and_one_is_mod] at h2
  rw [h1, ← h2]
  omega
theorem rpend_loop {GL : List (Nat × List Value)} {X : Cx} (hX : X.GL = GL) (hXn : X.n = 1) (p : PS) (hp : p.ok) (N : Nat) {Q : Exit → Env → List SB → Prop}
    (hQ : ∀ t, SX.get t 8 = .int .u64 p.pend → Q (.exit 0) t [RP p]) : LoopK X (ev X N Tryd.prog ref05_Plic_Read.l8) [(0, .pointer (some ⟨0, 0, none⟩)), (8, .int .u64 0), (9, .int .i64 31)] [RP p] Q := by
  refine ⟨fun t H m => m ≤ 32 ∧ t = [(0, .pointer (some ⟨0, 0, none⟩)), (8, .int .u64 (p.pend / 2 ^ m : Nat)), (9, .int .i64 ((m : Int) - 1))] ∧ H = [RP p], ?_, ?_⟩
  · refine ⟨[0], _, _, by rw [hXn]; rfl, by decide, by decide, ?_, ?_, 32, by omega, rfl, rfl⟩
    · simp only [push_cast, reduceIte, Nat.reduceEqDiff, Nat.reduceAdd, Nat.reduceMul, Nat.reduceSub, Nat.reduceLT, Nat.reduceLeDiff, Nat.reduceBEq, Int.reduceLE, Int.reduceLT, Int.reduceEq, Int.reduceToNat, Int.reduceAdd, Int.reduceMul, Int.reduceSub, Int.reduceNeg, reduceCtorEq, if_true, if_false]
    · have : p.pend / 2 ^ 32 = 0 := Nat.div_eq_of_lt hp.pend
      simp only [this, push_cast, reduceIte, Nat.reduceEqDiff, Nat.reduceAdd, Nat.reduceMul, Nat.reduceSub, Nat.reduceLT, Nat.reduceLeDiff, Nat.reduceBEq, Int.reduceLE, Int.reduceLT, Int.reduceEq, Int.reduceToNat, Int.reduceAdd, Int.reduceMul, Int.reduceSub, Int.reduceNeg, reduceCtorEq, if_true, if_false]
  rintro t H m ⟨hm, rfl, rfl⟩
  unfold ref05_Plic_Read.l8
  cases m with
  | zero =>
    have e : (((0 : Nat) : Int) - 1) = -1 := rfl
    simp only [e]
    simp -implicitDefEqProofs -dsimp only [go_sem, reduceIte, Nat.reduceEqDiff, Nat.reduceAdd, Nat.reduceMul, Nat.reduceSub, Nat.reduceLT, Nat.reduceLeDiff, Nat.reduceBEq, Int.reduceLE, Int.reduceLT, Int.reduceEq, Int.reduceToNat, Int.reduceAdd, Int.reduceMul, Int.reduceSub, Int.reduceNeg, reduceCtorEq, if_true, if_false, hX]
    refine hQ _ ?_
    simp [SX.get]
  | succ k =>
    have e : (((k + 1 : Nat) : Int) - 1) = (k : Int) := by omega
    have hk : k < 32 := by omega
    have d : ((k : Int) < 32) = True := by simp; omega
    have d0 : decide ((0 : Int) ≤ (k : Int)) = true := decide_eq_true (by omega)
    have hlt : p.pend / 2 ^ k < 2 ^ 32 := Nat.lt_of_le_of_lt (Nat.div_le_self _ _) hp.pend
    have hh := half p.pend k
    have w1 : IntKind.u64.wrap (2 * ((p.pend / 2 ^ (k + 1) : Nat) : Int)) = ((2 * (p.pend / 2 ^ (k + 1)) : Nat) : Int) := by
      rw [show (2 : Int) * ((p.pend / 2 ^ (k + 1) : Nat) : Int) = ((2 * (p.pend / 2 ^ (k + 1)) : Nat) : Int) by rw [Int.natCast_mul]; rfl]
      exact wrap_nat rfl (by show _ < 2 ^ 64; omega)
    have w2 : IntKind.u64.wrap (((2 * (p.pend / 2 ^ (k + 1)) : Nat) : Int) + 1) = ((2 * (p.pend / 2 ^ (k + 1)) + 1 : Nat) : Int) := wrap_nat (n := 2 * (p.pend / 2 ^ (k + 1)) + 1) rfl (by
      have := hp.pend
      have h3 : p.pend / 2 ^ (k + 1) ≤ p.pend := Nat.div_le_self _ _
      show _ < 2 ^ 64; omega)
    have w3 : IntKind.i64.wrap ((k : Int) - 1) = (k : Int) - 1 := wrap_i64 (by omega) (by omega)
    simp only [e]
    cases hb : p.pend.testBit k with
    | true =>
      rw [hb] at hh
      simp -implicitDefEqProofs -dsimp only [go_sem, reduceIte, Nat.reduceEqDiff, Nat.reduceAdd, Nat.reduceMul, Nat.reduceSub, Nat.reduceLT, Nat.reduceLeDiff, Nat.reduceBEq, Int.reduceLE, Int.reduceLT, Int.reduceEq, Int.reduceToNat, Int.reduceAdd, Int.reduceMul, Int.reduceSub, Int.reduceNeg, reduceCtorEq, if_true, if_false, hX, d0, w1, d, RP_2 p hk, hb, w2, w3]
      refine ⟨[0], _, _, by rw [hXn]; rfl, by decide, by decide, ?_, ?_, k, by omega, by omega, rfl, rfl⟩
      · simp only [push_cast, reduceIte, Nat.reduceEqDiff, Nat.reduceAdd, Nat.reduceMul, Nat.reduceSub, Nat.reduceLT, Nat.reduceLeDiff, Nat.reduceBEq, Int.reduceLE, Int.reduceLT, Int.reduceEq, Int.reduceToNat, Int.reduceAdd, Int.reduceMul, Int.reduceSub, Int.reduceNeg, reduceCtorEq, if_true, if_false]
      · rw [hh]; simp only [Bool.toNat_true, push_cast, reduceIte, Nat.reduceEqDiff, Nat.reduceAdd, Nat.reduceMul, Nat.reduceSub, Nat.reduceLT, Nat.reduceLeDiff, Nat.reduceBEq, Int.reduceLE, Int.reduceLT, Int.reduceEq, Int.reduceToNat, Int.reduceAdd, Int.reduceMul, Int.reduceSub, Int.reduceNeg, reduceCtorEq, if_true, if_false]
    | false =>
      rw [hb] at hh
      simp -implicitDefEqProofs -dsimp only [go_sem, reduceIte, Nat.reduceEqDiff, Nat.reduceAdd, Nat.reduceMul, Nat.reduceSub, Nat.reduceLT, Nat.reduceLeDiff, Nat.reduceBEq, Int.reduceLE, Int.reduceLT, Int.reduceEq, Int.reduceToNat, Int.reduceAdd, Int.reduceMul, Int.reduceSub, Int.reduceNeg, reduceCtorEq, if_true, if_false, hX, d0, w1, d, RP_2 p hk, hb, w3]
      refine ⟨[0], _, _, by rw [hXn]; rfl, by decide, by decide, ?_, ?_, k, by omega, by omega, rfl, rfl⟩
      · simp only [push_cast, reduceIte, Nat.reduceEqDiff, Nat.reduceAdd, Nat.reduceMul, Nat.reduceSub, Nat.reduceLT, Nat.reduceLeDiff, Nat.reduceBEq, Int.reduceLE, Int.reduceLT, Int.reduceEq, Int.reduceToNat, Int.reduceAdd, Int.reduceMul, Int.reduceSub, Int.reduceNeg, reduceCtorEq, if_true, if_false]
      · rw [hh]; simp only [Bool.toNat_false, Nat.add_zero, push_cast, reduceIte, Nat.reduceEqDiff, Nat.reduceAdd, Nat.reduceMul, Nat.reduceSub, Nat.reduceLT, Nat.reduceLeDiff, Nat.reduceBEq, Int.reduceLE, Int.reduceLT, Int.reduceEq, Int.reduceToNat, Int.reduceAdd, Int.reduceMul, Int.reduceSub, Int.reduceNeg, reduceCtorEq, if_true, if_false]
theorem ron_loop {GL : List (Nat × List Value)} {X : Cx} (hX : X.GL = GL) (hXn : X.n = 1) (p : PS) (hp : p.ok) (c : Int) (hc : c = 0 ∨ c = 1) (N : Nat) {Q : Exit → Env → List SB → Prop}
    (hQ : ∀ t, SX.get t 12 = .int .u64 (p.on c : Nat) → Q (.exit 4) t [RP p]) : LoopK X (ev X N Tryd.prog ref05_Plic_Read.l21) [(0, .pointer (some ⟨0, 0, none⟩)), (10, .int .i64 c), (12, .int .u64 0), (13, .int .i64 31)] [RP p] Q := by
  have hon : p.on c < 2 ^ 32 := by unfold PS.on; split; exact hp.on0; exact hp.on1
  have d3 : (0 ≤ c) = True := by simp; omega
  have d4 : (c < 2) = True := by simp; omega
  have e1 : ∀ i, i < 32 → rd (some (RP p)) (i * 6 + 4 + c.toNat) = some (.bool ((p.on c).testBit i)) := by
    intro i hi
    rcases hc with rfl | rfl
    · exact RP_4 p hi
    · exact RP_5 p hi
  refine ⟨fun t H m => m ≤ 32 ∧ t = [(0, .pointer (some ⟨0, 0, none⟩)), (10, .int .i64 c), (12, .int .u64 (p.on c / 2 ^ m : Nat)), (13, .int .i64 ((m : Int) - 1))] ∧ H = [RP p], ?_, ?_⟩
  · refine ⟨[0], _, _, by rw [hXn]; rfl, by decide, by decide, ?_, ?_, 32, by omega, rfl, rfl⟩
    · simp only [push_cast, reduceIte, Nat.reduceEqDiff, Nat.reduceAdd, Nat.reduceMul, Nat.reduceSub, Nat.reduceLT, Nat.reduceLeDiff, Nat.reduceBEq, Int.reduceLE, Int.reduceLT, Int.reduceEq, Int.reduceToNat, Int.reduceAdd, Int.reduceMul, Int.reduceSub, Int.reduceNeg, reduceCtorEq, if_true, if_false]
    · have : (p.on c) / 2 ^ 32 = 0 := Nat.div_eq_of_lt hon
      simp only [this, push_cast, reduceIte, Nat.reduceEqDiff, Nat.reduceAdd, Nat.reduceMul, Nat.reduceSub, Nat.reduceLT, Nat.reduceLeDiff, Nat.reduceBEq, Int.reduceLE, Int.reduceLT, Int.reduceEq, Int.reduceToNat, Int.reduceAdd, Int.reduceMul, Int.reduceSub, Int.reduceNeg, reduceCtorEq, if_true, if_false]
  rintro t H m ⟨hm, rfl, rfl⟩
  unfold ref05_Plic_Read.l21
  cases m with
  | zero =>
    have e : (((0 : Nat) : Int) - 1) = -1 := rfl
    simp only [e]
    simp -implicitDefEqProofs -dsimp only [go_sem, reduceIte, Nat.reduceEqDiff, Nat.reduceAdd, Nat.reduceMul, Nat.reduceSub, Nat.reduceLT, Nat.reduceLeDiff, Nat.reduceBEq, Int.reduceLE, Int.reduceLT, Int.reduceEq, Int.reduceToNat, Int.reduceAdd, Int.reduceMul, Int.reduceSub, Int.reduceNeg, reduceCtorEq, if_true, if_false, hX]
    refine hQ _ ?_
    simp [SX.get]
  | succ k =>
    have e : (((k + 1 : Nat) : Int) - 1) = (k : Int) := by omega
    have hk : k < 32 := by omega
    have d : ((k : Int) < 32) = True := by simp; omega
    have d0 : decide ((0 : Int) ≤ (k : Int)) = true := decide_eq_true (by omega)
    have hlt : (p.on c) / 2 ^ k < 2 ^ 32 := Nat.lt_of_le_of_lt (Nat.div_le_self _ _) hon
    have hh := half (p.on c) k
    have w1 : IntKind.u64.wrap (2 * (((p.on c) / 2 ^ (k + 1) : Nat) : Int)) = ((2 * ((p.on c) / 2 ^ (k + 1)) : Nat) : Int) := by
      rw [show (2 : Int) * (((p.on c) / 2 ^ (k + 1) : Nat) : Int) = ((2 * ((p.on c) / 2 ^ (k + 1)) : Nat) : Int) by rw [Int.natCast_mul]; rfl]
      exact wrap_nat rfl (by show _ < 2 ^ 64; omega)
    have w2 : IntKind.u64.wrap (((2 * ((p.on c) / 2 ^ (k + 1)) : Nat) : Int) + 1) = ((2 * ((p.on c) / 2 ^ (k + 1)) + 1 : Nat) : Int) := wrap_nat (n := 2 * ((p.on c) / 2 ^ (k + 1)) + 1) rfl (by
      have := hon
      have h3 : (p.on c) / 2 ^ (k + 1) ≤ (p.on c) := Nat.div_le_self _ _
      show _ < 2 ^ 64; omega)
    have w3 : IntKind.i64.wrap ((k : Int) - 1) = (k : Int) - 1 := wrap_i64 (by omega) (by omega)
    simp only [e]
    cases hb : (p.on c).testBit k with
    | true =>
      rw [hb] at hh
      simp -implicitDefEqProofs -dsimp only [go_sem, reduceIte, Nat.reduceEqDiff, Nat.reduceAdd, Nat.reduceMul, Nat.reduceSub, Nat.reduceLT, Nat.reduceLeDiff, Nat.reduceBEq, Int.reduceLE, Int.reduceLT, Int.reduceEq, Int.reduceToNat, Int.reduceAdd, Int.reduceMul, Int.reduceSub, Int.reduceNeg, reduceCtorEq, if_true, if_false, hX, d0, w1, d, d3, d4, e1 k hk, hb, w2, w3]
      refine ⟨[0], _, _, by rw [hXn]; rfl, by decide, by decide, ?_, ?_, k, by omega, by omega, rfl, rfl⟩
      · simp only [push_cast, reduceIte, Nat.reduceEqDiff, Nat.reduceAdd, Nat.reduceMul, Nat.reduceSub, Nat.reduceLT, Nat.reduceLeDiff, Nat.reduceBEq, Int.reduceLE, Int.reduceLT, Int.reduceEq, Int.reduceToNat, Int.reduceAdd, Int.reduceMul, Int.reduceSub, Int.reduceNeg, reduceCtorEq, if_true, if_false]
      · rw [hh]; simp only [Bool.toNat_true, push_cast, reduceIte, Nat.reduceEqDiff, Nat.reduceAdd, Nat.reduceMul, Nat.reduceSub, Nat.reduceLT, Nat.reduceLeDiff, Nat.reduceBEq, Int.reduceLE, Int.reduceLT, Int.reduceEq, Int.reduceToNat, Int.reduceAdd, Int.reduceMul, Int.reduceSub, Int.reduceNeg, reduceCtorEq, if_true, if_false]
    | false =>
      rw [hb] at hh
      simp -implicitDefEqProofs -dsimp only [go_sem, reduceIte, Nat.reduceEqDiff, Nat.reduceAdd, Nat.reduceMul, Nat.reduceSub, Nat.reduceLT, Nat.reduceLeDiff, Nat.reduceBEq, Int.reduceLE, Int.reduceLT, Int.reduceEq, Int.reduceToNat, Int.reduceAdd, Int.reduceMul, Int.reduceSub, Int.reduceNeg, reduceCtorEq, if_true, if_false, hX, d0, w1, d, d3, d4, e1 k hk, hb, w3]
      refine ⟨[0], _, _, by rw [hXn]; rfl, by decide, by decide, ?_, ?_, k, by omega, by omega, rfl, rfl⟩
      · simp only [push_cast, reduceIte, Nat.reduceEqDiff, Nat.reduceAdd, Nat.reduceMul, Nat.reduceSub, Nat.reduceLT, Nat.reduceLeDiff, Nat.reduceBEq, Int.reduceLE, Int.reduceLT, Int.reduceEq, Int.reduceToNat, Int.reduceAdd, Int.reduceMul, Int.reduceSub, Int.reduceNeg, reduceCtorEq, if_true, if_false]
      · rw [hh]; simp only [Bool.toNat_false, Nat.add_zero, push_cast, reduceIte, Nat.reduceEqDiff, Nat.reduceAdd, Nat.reduceMul, Nat.reduceSub, Nat.reduceLT, Nat.reduceLeDiff, Nat.reduceBEq, Int.reduceLE, Int.reduceLT, Int.reduceEq, Int.reduceToNat, Int.reduceAdd, Int.reduceMul, Int.reduceSub, Int.reduceNeg, reduceCtorEq, if_true, if_false]
theorem plDec_at {off : Nat} {d : Pl} (h : plDec off = d) : plDec off = d := h
theorem rread_spec (GL : List (Nat × List Value)) (p : PS) (hp : p.good) (off : Nat) (n : Int) (ho : off < 2 ^ 64) :
    SX.Spec Tryd.prog GL 36 1 [.pointer (some ⟨0, 0, none⟩), .int .u64 off, .int .i64 n] [RP p] (fun v H =>
      v = .tuple ⟨[.int .u64 ((if n = 4 then p.rv (plDec off) else 0 : Nat) : Int), .bool (decide (n = 4) && (plDec off).is)]⟩ ∧ H = [RP (if n = 4 then p.rs (plDec off) else p)]) := by
  refine spec_of_ev (fn := Tryd.f36) (by kernel_rfl) ref05_Plic_Read.ok ref05_Plic_Read.rok (Nat.le_of_ble_eq_true rfl) fun X hX hXn => ?_
  unfold ref05_Plic_Read.ic ref05_Plic_Read.rv
  by_cases hn : ¬ n = 4
  · have d : decide (n = 4) = false := decide_eq_false hn
    simp -implicitDefEqProofs -dsimp only [go_sem, reduceIte, Nat.reduceEqDiff, Nat.reduceAdd, Nat.reduceMul, Nat.reduceSub, Nat.reduceLT, Nat.reduceLeDiff, Nat.reduceBEq, Int.reduceLE, Int.reduceLT, Int.reduceEq, Int.reduceToNat, Int.reduceAdd, Int.reduceMul, Int.reduceSub, Int.reduceNeg, reduceCtorEq, if_true, if_false, hX, d]
    simp [hn]
  replace hn : n = 4 := by omega
  subst hn
  simp only [decide_true, Bool.true_and, if_true]
  by_cases h0 : off < 128 ∧ off % 4 = 0
  · have e : plDec off = .prio (off / 4) := by unfold plDec; rw [if_pos h0]
    rw [e]
    have d1 : decide ((off : Int) < 128) = true := decide_eq_true (by omega)
    have e1 : (off : Int).tmod 4 = ((off % 4 : Nat) : Int) := by rw [Int.tmod_eq_emod_of_nonneg (by omega)]; rfl
    have d2 : decide (((off % 4 : Nat) : Int) = 0) = true := decide_eq_true (by omega)
    have e2 : IntKind.u64.wrap ((off : Int).tdiv 4) = ((off / 4 : Nat) : Int) := by rw [Int.tdiv_eq_ediv_of_nonneg (by omega), (show (off : Int) / 4 = ((off / 4 : Nat) : Int) by omega)]; exact wrap_nat rfl (by show _ < 2 ^ 64; omega)
    have hi : off / 4 < 32 := by omega
    have d3 : (((off / 4 : Nat) : Int) < 32) = True := by simp only [eq_iff_iff, iff_true]; omega
    simp -implicitDefEqProofs -dsimp only [go_sem, reduceIte, Nat.reduceEqDiff, Nat.reduceAdd, Nat.reduceMul, Nat.reduceSub, Nat.reduceLT, Nat.reduceLeDiff, Nat.reduceBEq, Int.reduceLE, Int.reduceLT, Int.reduceEq, Int.reduceToNat, Int.reduceAdd, Int.reduceMul, Int.reduceSub, Int.reduceNeg, reduceCtorEq, if_true, if_false, hX, d1, e1, d2, e2, d3, RP_0 p hi]
    exact ⟨rfl, rfl⟩
  have key : ev X Tryd.f36.ntmps Tryd.prog ref05_Plic_Read.ic (env0 0 [.pointer (some ⟨0, 0, none⟩), .int .u64 off, .int .i64 4]) [RP p] (finQ GL ref05_Plic_Read.rv fun v H => v = .tuple ⟨[.int .u64 ((p.rv (plDec off) : Nat) : Int), .bool ((plDec off).is)]⟩ ∧ H = [RP (p.rs (plDec off))]) := by
    unfold ref05_Plic_Read.ic ref05_Plic_Read.rv
    by_cases hB : off = 4096
    · have e : plDec off = .pend := by subst hB; rfl
      rw [e]
      subst hB
      simp -implicitDefEqProofs -dsimp only [go_sem, reduceIte, Nat.reduceEqDiff, Nat.reduceAdd, Nat.reduceMul, Nat.reduceSub, Nat.reduceLT, Nat.reduceLeDiff, Nat.reduceBEq, Int.reduceLE, Int.reduceLT, Int.reduceEq, Int.reduceToNat, Int.reduceAdd, Int.reduceMul, Int.reduceSub, Int.reduceNeg, reduceCtorEq, if_true, if_false, hX]
      refine rpend_loop hX hXn p hp.took _ fun t ht => ?_
      simp -implicitDefEqProofs -dsimp only [go_sem, reduceIte, Nat.reduceEqDiff, Nat.reduceAdd, Nat.reduceMul, Nat.reduceSub, Nat.reduceLT, Nat.reduceLeDiff, Nat.reduceBEq, Int.reduceLE, Int.reduceLT, Int.reduceEq, Int.reduceToNat, Int.reduceAdd, Int.reduceMul, Int.reduceSub, Int.reduceNeg, reduceCtorEq, if_true, if_false, hX, ht]
      exact ⟨rfl, rfl⟩
    suffices hloop : LoopK X (ev X Tryd.f36.ntmps Tryd.prog ref05_Plic_Read.l15) [(0, .pointer (some ⟨0, 0, none⟩)), (1, .int .u64 off), (10, .int .i64 0)] [RP p] (blockQ 2 (thenQ X Tryd.f36.ntmps Tryd.prog (some []) (.seq (.reg [⟨none, .mov 6 (.const (.int .u64 0))⟩, ⟨none, .mov 7 (.const (.bool false))⟩]) (some [6, 7]) .ret) (finQ GL [.t 6, .t 7] fun v H => v = .tuple ⟨[.int .u64 ((p.rv (plDec off) : Nat) : Int), .bool ((plDec off).is)]⟩ ∧ H = [RP (p.rs (plDec off))]))) by
      have d1 : decide ((off : Int) = 4096) = false := decide_eq_false (by omega)
      by_cases h128 : off < 128
      · have d2 : decide ((off : Int) < 128) = true := decide_eq_true (by omega)
        have d3 : decide ((off : Int).tmod 4 = 0) = false := by
          refine decide_eq_false ?_
          rw [Int.tmod_eq_emod_of_nonneg (by omega)]
          intro h4
          exact h0 ⟨h128, by omega⟩
        simp -implicitDefEqProofs -dsimp only [go_sem, reduceIte, Nat.reduceEqDiff, Nat.reduceAdd, Nat.reduceMul, Nat.reduceSub, Nat.reduceLT, Nat.reduceLeDiff, Nat.reduceBEq, Int.reduceLE, Int.reduceLT, Int.reduceEq, Int.reduceToNat, Int.reduceAdd, Int.reduceMul, Int.reduceSub, Int.reduceNeg, reduceCtorEq, if_true, if_false, hX, d1, d2, d3]
        exact hloop
      · have d2 : decide ((off : Int) < 128) = false := decide_eq_false (by omega)
        simp -implicitDefEqProofs -dsimp only [go_sem, reduceIte, Nat.reduceEqDiff, Nat.reduceAdd, Nat.reduceMul, Nat.reduceSub, Nat.reduceLT, Nat.reduceLeDiff, Nat.reduceBEq, Int.reduceLE, Int.reduceLT, Int.reduceEq, Int.reduceToNat, Int.reduceAdd, Int.reduceMul, Int.reduceSub, Int.reduceNeg, reduceCtorEq, if_true, if_false, hX, d1, d2]
        exact hloop
    have dec0 : plDec off = if off = 8192 then .en 0 else if off = 8320 then .en 1 else if off = 2097152 then .fl 0 else if off = 2101248 then .fl 1 else if off = 2097156 then .cl 0 else if off = 2101252 then .cl 1 else .none := by
      unfold plDec; rw [if_neg h0, if_neg hB]
    have w4 : IntKind.u64.wrap (p.f0 : Int) = p.f0 := wrap_nat rfl (Nat.lt_trans hp.f0 (by decide))
    have w5 : IntKind.u64.wrap (p.f1 : Int) = p.f1 := wrap_nat rfl (Nat.lt_trans hp.f1 (by decide))
    have cb : ∀ c : Int, IntKind.u64.wrap (p.best c : Int) = p.best c := fun c => wrap_nat rfl (by have := p.best_lt hp.took c; show _ < 2 ^ 64; omega)
    refine ⟨fun t H m => ∃ i : Int, ((i = 0 ∧ m = 2) ∨ (i = 1 ∧ m = 1 ∧ off ≠ 8192 ∧ off ≠ 2097152 ∧ off ≠ 2097156) ∨ (i = 2 ∧ m = 0 ∧ off ≠ 8192 ∧ off ≠ 2097152 ∧ off ≠ 2097156 ∧ off ≠ 8320 ∧ off ≠ 2101248 ∧ off ≠ 2101252)) ∧
      t = [(0, .pointer (some ⟨0, 0, none⟩)), (1, .int .u64 off), (10, .int .i64 i)] ∧ H = [RP p], ?_, ?_⟩
    · refine ⟨[0], _, _, by rw [hXn]; rfl, by decide, by decide, ?_, ?_, _, 0, .inl ⟨rfl, rfl⟩, rfl, rfl⟩
      · simp only [push_cast, reduceIte, Nat.reduceEqDiff, Nat.reduceAdd, Nat.reduceMul, Nat.reduceSub, Nat.reduceLT, Nat.reduceLeDiff, Nat.reduceBEq, Int.reduceLE, Int.reduceLT, Int.reduceEq, Int.reduceToNat, Int.reduceAdd, Int.reduceMul, Int.reduceSub, Int.reduceNeg, reduceCtorEq, if_true, if_false]
      · simp only [push_cast, reduceIte, Nat.reduceEqDiff, Nat.reduceAdd, Nat.reduceMul, Nat.reduceSub, Nat.reduceLT, Nat.reduceLeDiff, Nat.reduceBEq, Int.reduceLE, Int.reduceLT, Int.reduceEq, Int.reduceToNat, Int.reduceAdd, Int.reduceMul, Int.reduceSub, Int.reduceNeg, reduceCtorEq, if_true, if_false]
    rintro t H m ⟨i, hi, rfl, rfl⟩
    unfold ref05_Plic_Read.l15
    rcases hi with ⟨rfl, rfl⟩ | ⟨rfl, rfl, n1, n2, n3⟩ | ⟨rfl, rfl, n1, n2, n3, n4, n5, n6⟩
    · by_cases c1 : off = 8192
      · subst c1
        simp -implicitDefEqProofs -dsimp only [go_sem, reduceIte, Nat.reduceEqDiff, Nat.reduceAdd, Nat.reduceMul, Nat.reduceSub, Nat.reduceLT, Nat.reduceLeDiff, Nat.reduceBEq, Int.reduceLE, Int.reduceLT, Int.reduceEq, Int.reduceToNat, Int.reduceAdd, Int.reduceMul, Int.reduceSub, Int.reduceNeg, reduceCtorEq, if_true, if_false, hX]
        refine ron_loop hX hXn p hp.took 0 (.inl rfl) _ fun t ht => ?_
        simp -implicitDefEqProofs -dsimp only [go_sem, reduceIte, Nat.reduceEqDiff, Nat.reduceAdd, Nat.reduceMul, Nat.reduceSub, Nat.reduceLT, Nat.reduceLeDiff, Nat.reduceBEq, Int.reduceLE, Int.reduceLT, Int.reduceEq, Int.reduceToNat, Int.reduceAdd, Int.reduceMul, Int.reduceSub, Int.reduceNeg, reduceCtorEq, if_true, if_false, hX, ht]
        exact ⟨rfl, rfl⟩
      have x1 : decide ((off : Int) = 8192) = false := decide_eq_false (by omega)
      by_cases c2 : off = 2097152
      · subst c2
        simp -implicitDefEqProofs -dsimp only [go_sem, reduceIte, Nat.reduceEqDiff, Nat.reduceAdd, Nat.reduceMul, Nat.reduceSub, Nat.reduceLT, Nat.reduceLeDiff, Nat.reduceBEq, Int.reduceLE, Int.reduceLT, Int.reduceEq, Int.reduceToNat, Int.reduceAdd, Int.reduceMul, Int.reduceSub, Int.reduceNeg, reduceCtorEq, if_true, if_false, hX, RP_f0 p]
        exact ⟨rfl, rfl⟩
      have x2 : decide ((off : Int) = 2097152) = false := decide_eq_false (by omega)
      by_cases c3 : off = 2097156
      · subst c3
        simp -implicitDefEqProofs -dsimp only [go_sem, reduceIte, Nat.reduceEqDiff, Nat.reduceAdd, Nat.reduceMul, Nat.reduceSub, Nat.reduceLT, Nat.reduceLeDiff, Nat.reduceBEq, Int.reduceLE, Int.reduceLT, Int.reduceEq, Int.reduceToNat, Int.reduceAdd, Int.reduceMul, Int.reduceSub, Int.reduceNeg, reduceCtorEq, if_true, if_false, hX, RP_all p]
        refine call_of_spec (hX ▸ (rbest_spec GL p hp 0)) [] (by decide) (by simp) (by simp [BAD]) (by simp) (by simp only [push_cast, reduceIte, Nat.reduceEqDiff, Nat.reduceAdd, Nat.reduceMul, Nat.reduceSub, Nat.reduceLT, Nat.reduceLeDiff, Nat.reduceBEq, Int.reduceLE, Int.reduceLT, Int.reduceEq, Int.reduceToNat, Int.reduceAdd, Int.reduceMul, Int.reduceSub, Int.reduceNeg, reduceCtorEq, if_true, if_false]) (by simp only [push_cast, reduceIte, Nat.reduceEqDiff, Nat.reduceAdd, Nat.reduceMul, Nat.reduceSub, Nat.reduceLT, Nat.reduceLeDiff, Nat.reduceBEq, Int.reduceLE, Int.reduceLT, Int.reduceEq, Int.reduceToNat, Int.reduceAdd, Int.reduceMul, Int.reduceSub, Int.reduceNeg, reduceCtorEq, if_true, if_false]) ?_
        rintro v H ⟨rfl, rfl⟩ _
        simp only [push_cast, reduceIte, Nat.reduceEqDiff, Nat.reduceAdd, Nat.reduceMul, Nat.reduceSub, Nat.reduceLT, Nat.reduceLeDiff, Nat.reduceBEq, Int.reduceLE, Int.reduceLT, Int.reduceEq, Int.reduceToNat, Int.reduceAdd, Int.reduceMul, Int.reduceSub, Int.reduceNeg, reduceCtorEq, if_true, if_false]
        have hb := p.best_lt hp.took 0
        by_cases hbp : 0 < p.best 0
        · have d : decide ((0 : Int) < (p.best 0 : Int)) = true := decide_eq_true (by omega)
          have d2 : ((p.best 0 : Int) < 32) = True := by simp; omega
          have e1 := RP_w2 p hb false
          have e2 := RP_w3 { p with pend := setBit p.pend (p.best 0) false } hb true
          simp -implicitDefEqProofs -dsimp only [go_sem, reduceIte, Nat.reduceEqDiff, Nat.reduceAdd, Nat.reduceMul, Nat.reduceSub, Nat.reduceLT, Nat.reduceLeDiff, Nat.reduceBEq, Int.reduceLE, Int.reduceLT, Int.reduceEq, Int.reduceToNat, Int.reduceAdd, Int.reduceMul, Int.reduceSub, Int.reduceNeg, reduceCtorEq, if_true, if_false, hX, d, d2, e1, e2, cb 0]
          refine ⟨rfl, ?_⟩
          show _ = [RP (p.claim 0)]
          rw [PS.claim, if_pos hbp]; rfl
        · have d : decide ((0 : Int) < (p.best 0 : Int)) = false := decide_eq_false (by omega)
          simp -implicitDefEqProofs -dsimp only [go_sem, reduceIte, Nat.reduceEqDiff, Nat.reduceAdd, Nat.reduceMul, Nat.reduceSub, Nat.reduceLT, Nat.reduceLeDiff, Nat.reduceBEq, Int.reduceLE, Int.reduceLT, Int.reduceEq, Int.reduceToNat, Int.reduceAdd, Int.reduceMul, Int.reduceSub, Int.reduceNeg, reduceCtorEq, if_true, if_false, hX, d, cb 0]
          refine ⟨rfl, ?_⟩
          show _ = [RP (p.claim 0)]
          rw [PS.claim, if_neg hbp]
      have x3 : decide ((off : Int) = 2097156) = false := decide_eq_false (by omega)
      simp -implicitDefEqProofs -dsimp only [go_sem, reduceIte, Nat.reduceEqDiff, Nat.reduceAdd, Nat.reduceMul, Nat.reduceSub, Nat.reduceLT, Nat.reduceLeDiff, Nat.reduceBEq, Int.reduceLE, Int.reduceLT, Int.reduceEq, Int.reduceToNat, Int.reduceAdd, Int.reduceMul, Int.reduceSub, Int.reduceNeg, reduceCtorEq, if_true, if_false, hX, x1, x2, x3]
      refine ⟨[0], _, _, by rw [hXn]; rfl, by decide, by decide, ?_, ?_, _, by decide, 1, .inr (.inl ⟨rfl, rfl, c1, c2, c3⟩), rfl, rfl⟩
      · simp only [push_cast, reduceIte, Nat.reduceEqDiff, Nat.reduceAdd, Nat.reduceMul, Nat.reduceSub, Nat.reduceLT, Nat.reduceLeDiff, Nat.reduceBEq, Int.reduceLE, Int.reduceLT, Int.reduceEq, Int.reduceToNat, Int.reduceAdd, Int.reduceMul, Int.reduceSub, Int.reduceNeg, reduceCtorEq, if_true, if_false]
      · simp only [push_cast, reduceIte, Nat.reduceEqDiff, Nat.reduceAdd, Nat.reduceMul, Nat.reduceSub, Nat.reduceLT, Nat.reduceLeDiff, Nat.reduceBEq, Int.reduceLE, Int.reduceLT, Int.reduceEq, Int.reduceToNat, Int.reduceAdd, Int.reduceMul, Int.reduceSub, Int.reduceNeg, reduceCtorEq, if_true, if_false]
    · by_cases c1 : off = 8320
      · subst c1
        simp -implicitDefEqProofs -dsimp only [go_sem, reduceIte, Nat.reduceEqDiff, Nat.reduceAdd, Nat.reduceMul, Nat.reduceSub, Nat.reduceLT, Nat.reduceLeDiff, Nat.reduceBEq, Int.reduceLE, Int.reduceLT, Int.reduceEq, Int.reduceToNat, Int.reduceAdd, Int.reduceMul, Int.reduceSub, Int.reduceNeg, reduceCtorEq, if_true, if_false, hX]
        refine ron_loop hX hXn p hp.took 1 (.inr rfl) _ fun t ht => ?_
        simp -implicitDefEqProofs -dsimp only [go_sem, reduceIte, Nat.reduceEqDiff, Nat.reduceAdd, Nat.reduceMul, Nat.reduceSub, Nat.reduceLT, Nat.reduceLeDiff, Nat.reduceBEq, Int.reduceLE, Int.reduceLT, Int.reduceEq, Int.reduceToNat, Int.reduceAdd, Int.reduceMul, Int.reduceSub, Int.reduceNeg, reduceCtorEq, if_true, if_false, hX, ht]
        exact ⟨rfl, rfl⟩
      have x1 : decide ((off : Int) = 8320) = false := decide_eq_false (by omega)
      by_cases c2 : off = 2101248
      · subst c2
        simp -implicitDefEqProofs -dsimp only [go_sem, reduceIte, Nat.reduceEqDiff, Nat.reduceAdd, Nat.reduceMul, Nat.reduceSub, Nat.reduceLT, Nat.reduceLeDiff, Nat.reduceBEq, Int.reduceLE, Int.reduceLT, Int.reduceEq, Int.reduceToNat, Int.reduceAdd, Int.reduceMul, Int.reduceSub, Int.reduceNeg, reduceCtorEq, if_true, if_false, hX, RP_f1 p]
        exact ⟨rfl, rfl⟩
      have x2 : decide ((off : Int) = 2101248) = false := decide_eq_false (by omega)
      by_cases c3 : off = 2101252
      · subst c3
        simp -implicitDefEqProofs -dsimp only [go_sem, reduceIte, Nat.reduceEqDiff, Nat.reduceAdd, Nat.reduceMul, Nat.reduceSub, Nat.reduceLT, Nat.reduceLeDiff, Nat.reduceBEq, Int.reduceLE, Int.reduceLT, Int.reduceEq, Int.reduceToNat, Int.reduceAdd, Int.reduceMul, Int.reduceSub, Int.reduceNeg, reduceCtorEq, if_true, if_false, hX, RP_all p]
        refine call_of_spec (hX ▸ (rbest_spec GL p hp 1)) [] (by decide) (by simp) (by simp [BAD]) (by simp) (by simp only [push_cast, reduceIte, Nat.reduceEqDiff, Nat.reduceAdd, Nat.reduceMul, Nat.reduceSub, Nat.reduceLT, Nat.reduceLeDiff, Nat.reduceBEq, Int.reduceLE, Int.reduceLT, Int.reduceEq, Int.reduceToNat, Int.reduceAdd, Int.reduceMul, Int.reduceSub, Int.reduceNeg, reduceCtorEq, if_true, if_false]) (by simp only [push_cast, reduceIte, Nat.reduceEqDiff, Nat.reduceAdd, Nat.reduceMul, Nat.reduceSub, Nat.reduceLT, Nat.reduceLeDiff, Nat.reduceBEq, Int.reduceLE, Int.reduceLT, Int.reduceEq, Int.reduceToNat, Int.reduceAdd, Int.reduceMul, Int.reduceSub, Int.reduceNeg, reduceCtorEq, if_true, if_false]) ?_
        rintro v H ⟨rfl, rfl⟩ _
        simp only [push_cast, reduceIte, Nat.reduceEqDiff, Nat.reduceAdd, Nat.reduceMul, Nat.reduceSub, Nat.reduceLT, Nat.reduceLeDiff, Nat.reduceBEq, Int.reduceLE, Int.reduceLT, Int.reduceEq, Int.reduceToNat, Int.reduceAdd, Int.reduceMul, Int.reduceSub, Int.reduceNeg, reduceCtorEq, if_true, if_false]
        have hb := p.best_lt hp.took 1
        by_cases hbp : 0 < p.best 1
        · have d : decide ((0 : Int) < (p.best 1 : Int)) = true := decide_eq_true (by omega)
          have d2 : ((p.best 1 : Int) < 32) = True := by simp; omega
          have e1 := RP_w2 p hb false
          have e2 := RP_w3 { p with pend := setBit p.pend (p.best 1) false } hb true
          simp -implicitDefEqProofs -dsimp only [go_sem, reduceIte, Nat.reduceEqDiff, Nat.reduceAdd, Nat.reduceMul, Nat.reduceSub, Nat.reduceLT, Nat.reduceLeDiff, Nat.reduceBEq, Int.reduceLE, Int.reduceLT, Int.reduceEq, Int.reduceToNat, Int.reduceAdd, Int.reduceMul, Int.reduceSub, Int.reduceNeg, reduceCtorEq, if_true, if_false, hX, d, d2, e1, e2, cb 1]
          refine ⟨rfl, ?_⟩
          show _ = [RP (p.claim 1)]
          rw [PS.claim, if_pos hbp]; rfl
        · have d : decide ((0 : Int) < (p.best 1 : Int)) = false := decide_eq_false (by omega)
          simp -implicitDefEqProofs -dsimp only [go_sem, reduceIte, Nat.reduceEqDiff, Nat.reduceAdd, Nat.reduceMul, Nat.reduceSub, Nat.reduceLT, Nat.reduceLeDiff, Nat.reduceBEq, Int.reduceLE, Int.reduceLT, Int.reduceEq, Int.reduceToNat, Int.reduceAdd, Int.reduceMul, Int.reduceSub, Int.reduceNeg, reduceCtorEq, if_true, if_false, hX, d, cb 1]
          refine ⟨rfl, ?_⟩
          show _ = [RP (p.claim 1)]
          rw [PS.claim, if_neg hbp]
      have x3 : decide ((off : Int) = 2101252) = false := decide_eq_false (by omega)
      simp -implicitDefEqProofs -dsimp only [go_sem, reduceIte, Nat.reduceEqDiff, Nat.reduceAdd, Nat.reduceMul, Nat.reduceSub, Nat.reduceLT, Nat.reduceLeDiff, Nat.reduceBEq, Int.reduceLE, Int.reduceLT, Int.reduceEq, Int.reduceToNat, Int.reduceAdd, Int.reduceMul, Int.reduceSub, Int.reduceNeg, reduceCtorEq, if_true, if_false, hX, x1, x2, x3]
      refine ⟨[0], _, _, by rw [hXn]; rfl, by decide, by decide, ?_, ?_, _, by decide, 2, .inr (.inr ⟨rfl, rfl, n1, n2, n3, c1, c2, c3⟩), rfl, rfl⟩
      · simp only [push_cast, reduceIte, Nat.reduceEqDiff, Nat.reduceAdd, Nat.reduceMul, Nat.reduceSub, Nat.reduceLT, Nat.reduceLeDiff, Nat.reduceBEq, Int.reduceLE, Int.reduceLT, Int.reduceEq, Int.reduceToNat, Int.reduceAdd, Int.reduceMul, Int.reduceSub, Int.reduceNeg, reduceCtorEq, if_true, if_false]
      · simp only [push_cast, reduceIte, Nat.reduceEqDiff, Nat.reduceAdd, Nat.reduceMul, Nat.reduceSub, Nat.reduceLT, Nat.reduceLeDiff, Nat.reduceBEq, Int.reduceLE, Int.reduceLT, Int.reduceEq, Int.reduceToNat, Int.reduceAdd, Int.reduceMul, Int.reduceSub, Int.reduceNeg, reduceCtorEq, if_true, if_false]
    · have e : plDec off = .none := by rw [dec0]; simp [n1, n2, n3, n4, n5, n6]
      rw [e]
      simp -implicitDefEqProofs -dsimp only [go_sem, reduceIte, Nat.reduceEqDiff, Nat.reduceAdd, Nat.reduceMul, Nat.reduceSub, Nat.reduceLT, Nat.reduceLeDiff, Nat.reduceBEq, Int.reduceLE, Int.reduceLT, Int.reduceEq, Int.reduceToNat, Int.reduceAdd, Int.reduceMul, Int.reduceSub, Int.reduceNeg, reduceCtorEq, if_true, if_false, hX]
      exact ⟨rfl, rfl⟩
  exact key
end Go.Proofs.YtbiaogehcnedmaaDoor
