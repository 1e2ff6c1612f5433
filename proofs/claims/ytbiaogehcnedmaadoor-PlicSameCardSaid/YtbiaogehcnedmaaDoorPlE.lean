/-
  A plic's lines and claims.
-/
import Derived.Test.YtbiaogehcnedmaaDoorPlD
set_option linter.unusedVariables false
set_option linter.unusedSimpArgs false
set_option maxRecDepth 100000
namespace Go.Proofs.YtbiaogehcnedmaaDoor
open Go Go.SX
def PS.fl (p : PS) (c : Int) : Nat := if c = 0 then p.f0 else p.f1
def PS.line (p : PS) (c : Int) : Bool := decide (0 < p.best c) && decide (p.fl c < p.prio.getD (p.best c) 0)
def PS.claim (p : PS) (c : Int) : PS := if 0 < p.best c then { p with pend := ndiff p.pend (2 ^ p.best c), busy := p.busy ||| 2 ^ p.best c } else p
def PS.isUp (p : PS) (s : Int) : Bool := decide (1 ≤ s ∧ s ≤ 31) && p.up.testBit s.toNat
theorem PS.best_ctx {p : PS} {c : Int} (h : 0 < p.best c) : 0 ≤ c ∧ c < 2 := by
  unfold PS.best at h
  split at h
  · assumption
  · omega
theorem PS.claim_ok {p : PS} (h : p.ok) (c : Int) : (p.claim c).ok := by
  unfold PS.claim
  split
  · exact { h with pend := ndiff_le _ _ h.pend, busy := Nat.or_lt_two_pow h.busy (pow32 (p.best_lt h c)) }
  · exact h
theorem up_spec (GL : List (Nat × List Value)) (p : PS) (hp : p.ok) (s : Int) : SX.Spec Tryd.prog GL 22 0 [.agg ⟨PC p⟩, .int .i64 s] [] (fun v H => v = .bool (p.isUp s) ∧ H = []) := by
  refine spec_sel (R := fun v H => v = .bool (p.isUp s)) ?_ ?_
  · refine spec_of_ev (fn := Tryd.f22) (by kernel_rfl) plic_Plic_Up.ok plic_Plic_Up.rok (Nat.le_of_ble_eq_true rfl) fun X hX hXn => ?_
    unfold plic_Plic_Up.ic plic_Plic_Up.rv
    simp -implicitDefEqProofs -dsimp only [go_sem, reduceIte, Nat.reduceEqDiff, Nat.reduceAdd, Nat.reduceMul, Nat.reduceSub, Nat.reduceLT, Nat.reduceLeDiff, Nat.reduceBEq, Int.reduceLE, Int.reduceLT, Int.reduceEq, Int.reduceToNat, Int.reduceAdd, Int.reduceMul, Int.reduceSub, Int.reduceNeg, reduceCtorEq, if_true, if_false, hX, mk_PC hp]
    refine call_leaf hX (is_spec GL s) rfl rfl ?_ ?_
    · simp [BAD]
    by_cases h : 1 ≤ s ∧ s ≤ 31
    · have d : decide (1 ≤ s ∧ s ≤ 31) = true := by simpa using h
      obtain ⟨k, rfl⟩ := Int.eq_ofNat_of_zero_le (show 0 ≤ s by omega)
      simp -implicitDefEqProofs -dsimp only [go_sem, reduceIte, Nat.reduceEqDiff, Nat.reduceAdd, Nat.reduceMul, Nat.reduceSub, Nat.reduceLT, Nat.reduceLeDiff, Nat.reduceBEq, Int.reduceLE, Int.reduceLT, Int.reduceEq, Int.reduceToNat, Int.reduceAdd, Int.reduceMul, Int.reduceSub, Int.reduceNeg, reduceCtorEq, if_true, if_false, hX, d]
      refine call_leaf hX (bit32n_spec GL p.up k hp.up (by omega)) rfl rfl ?_ ?_
      · simp [BAD]
      simp -implicitDefEqProofs -dsimp only [go_sem, reduceIte, Nat.reduceEqDiff, Nat.reduceAdd, Nat.reduceMul, Nat.reduceSub, Nat.reduceLT, Nat.reduceLeDiff, Nat.reduceBEq, Int.reduceLE, Int.reduceLT, Int.reduceEq, Int.reduceToNat, Int.reduceAdd, Int.reduceMul, Int.reduceSub, Int.reduceNeg, reduceCtorEq, if_true, if_false, hX]
      simp [PS.isUp, h]
    · have d : decide (1 ≤ s ∧ s ≤ 31) = false := by simpa using h
      simp -implicitDefEqProofs -dsimp only [go_sem, reduceIte, Nat.reduceEqDiff, Nat.reduceAdd, Nat.reduceMul, Nat.reduceSub, Nat.reduceLT, Nat.reduceLeDiff, Nat.reduceBEq, Int.reduceLE, Int.reduceLT, Int.reduceEq, Int.reduceToNat, Int.reduceAdd, Int.reduceMul, Int.reduceSub, Int.reduceNeg, reduceCtorEq, if_true, if_false, hX, d]
      simp [PS.isUp, d]
  · rintro v H rfl
    exact ⟨[], _, [], rfl, by decide, by simp, by simp [selH], rfl, rfl, rfl⟩
theorem line_spec (GL : List (Nat × List Value)) (hG : lookG GL (GB + 1) = some (.flat tzT 64 false)) (p : PS) (hp : p.ok) (c : Int) : SX.Spec Tryd.prog GL 20 0 [.agg ⟨PC p⟩, .int .i64 c] [] (fun v H => v = .bool (p.line c) ∧ H = []) := by
  refine spec_sel (R := fun v H => v = .bool (p.line c)) ?_ ?_
  · refine spec_of_ev (fn := Tryd.f20) (by kernel_rfl) plic_Plic_Line.ok plic_Plic_Line.rok (Nat.le_of_ble_eq_true rfl) fun X hX hXn => ?_
    unfold plic_Plic_Line.ic plic_Plic_Line.rv
    simp -implicitDefEqProofs -dsimp only [go_sem, reduceIte, Nat.reduceEqDiff, Nat.reduceAdd, Nat.reduceMul, Nat.reduceSub, Nat.reduceLT, Nat.reduceLeDiff, Nat.reduceBEq, Int.reduceLE, Int.reduceLT, Int.reduceEq, Int.reduceToNat, Int.reduceAdd, Int.reduceMul, Int.reduceSub, Int.reduceNeg, reduceCtorEq, if_true, if_false, hX, mk_PC hp, PB_all hp]
    refine call_of_spec (hX ▸ (best_spec GL hG p hp c)) [] (by decide) (by simp) (by simp [BAD]) (by simp) (by simp only [push_cast, reduceIte, Nat.reduceEqDiff, Nat.reduceAdd, Nat.reduceMul, Nat.reduceSub, Nat.reduceLT, Nat.reduceLeDiff, Nat.reduceBEq, Int.reduceLE, Int.reduceLT, Int.reduceEq, Int.reduceToNat, Int.reduceAdd, Int.reduceMul, Int.reduceSub, Int.reduceNeg, reduceCtorEq, if_true, if_false]) (by simp only [push_cast, reduceIte, Nat.reduceEqDiff, Nat.reduceAdd, Nat.reduceMul, Nat.reduceSub, Nat.reduceLT, Nat.reduceLeDiff, Nat.reduceBEq, Int.reduceLE, Int.reduceLT, Int.reduceEq, Int.reduceToNat, Int.reduceAdd, Int.reduceMul, Int.reduceSub, Int.reduceNeg, reduceCtorEq, if_true, if_false]) ?_
    rintro v H ⟨rfl, rfl⟩ _
    simp only [push_cast, reduceIte, Nat.reduceEqDiff, Nat.reduceAdd, Nat.reduceMul, Nat.reduceSub, Nat.reduceLT, Nat.reduceLeDiff, Nat.reduceBEq, Int.reduceLE, Int.reduceLT, Int.reduceEq, Int.reduceToNat, Int.reduceAdd, Int.reduceMul, Int.reduceSub, Int.reduceNeg, reduceCtorEq, if_true, if_false]
    simp -implicitDefEqProofs -dsimp only [go_sem, reduceIte, Nat.reduceEqDiff, Nat.reduceAdd, Nat.reduceMul, Nat.reduceSub, Nat.reduceLT, Nat.reduceLeDiff, Nat.reduceBEq, Int.reduceLE, Int.reduceLT, Int.reduceEq, Int.reduceToNat, Int.reduceAdd, Int.reduceMul, Int.reduceSub, Int.reduceNeg, reduceCtorEq, if_true, if_false, hX]
    refine mix_intro [0] ?_
    by_cases h : 0 < p.best c
    · have d : decide ((0 : Int) < (p.best c : Int)) = true := by simpa using h
      have d2 : ((p.best c : Int) < 32) = True := by have := p.best_lt hp c; simp; omega
      have hc := PS.best_ctx h
      have d3 : (0 ≤ c) = True := by simp; omega
      have d4 : (c < 2) = True := by simp; omega
      have e1 : rd (some (PB p)) (37 + c.toNat) = some (.int .u8 (p.fl c)) := by
        have : c = 0 ∨ c = 1 := by omega
        rcases this with rfl | rfl
        · exact PB_f0 hp
        · exact PB_f1 hp
      simp -implicitDefEqProofs -dsimp only [go_sem, reduceIte, Nat.reduceEqDiff, Nat.reduceAdd, Nat.reduceMul, Nat.reduceSub, Nat.reduceLT, Nat.reduceLeDiff, Nat.reduceBEq, Int.reduceLE, Int.reduceLT, Int.reduceEq, Int.reduceToNat, Int.reduceAdd, Int.reduceMul, Int.reduceSub, Int.reduceNeg, reduceCtorEq, if_true, if_false, hX, d, d2, d3, d4, e1, PB_prio hp (p.best_lt hp c)]
      simp [PS.line, h]
    · have d : decide ((0 : Int) < (p.best c : Int)) = false := by simpa using h
      simp -implicitDefEqProofs -dsimp only [go_sem, reduceIte, Nat.reduceEqDiff, Nat.reduceAdd, Nat.reduceMul, Nat.reduceSub, Nat.reduceLT, Nat.reduceLeDiff, Nat.reduceBEq, Int.reduceLE, Int.reduceLT, Int.reduceEq, Int.reduceToNat, Int.reduceAdd, Int.reduceMul, Int.reduceSub, Int.reduceNeg, reduceCtorEq, if_true, if_false, hX, d]
      simp [PS.line, h]
  · rintro v H rfl
    exact ⟨[], _, [], rfl, by decide, by simp, by simp [selH], rfl, rfl, rfl⟩
theorem claim_spec (GL : List (Nat × List Value)) (hG : lookG GL (GB + 1) = some (.flat tzT 64 false)) (p : PS) (hp : p.ok) (c : Int) : SX.Spec Tryd.prog GL 32 1 [.pointer (some ⟨0, 0, none⟩), .int .i64 c] [PB p] (fun v H => v = .int .u64 (p.best c) ∧ H = [PB (p.claim c)]) := by
  refine spec_of_ev (fn := Tryd.f32) (by kernel_rfl) plic_Plic_claim.ok plic_Plic_claim.rok (Nat.le_of_ble_eq_true rfl) fun X hX hXn => ?_
  unfold plic_Plic_claim.ic plic_Plic_claim.rv
  simp -implicitDefEqProofs -dsimp only [go_sem, reduceIte, Nat.reduceEqDiff, Nat.reduceAdd, Nat.reduceMul, Nat.reduceSub, Nat.reduceLT, Nat.reduceLeDiff, Nat.reduceBEq, Int.reduceLE, Int.reduceLT, Int.reduceEq, Int.reduceToNat, Int.reduceAdd, Int.reduceMul, Int.reduceSub, Int.reduceNeg, reduceCtorEq, if_true, if_false, hX, PB_all hp]
  refine call_of_spec (hX ▸ (best_spec GL hG p hp c)) [] (by decide) (by simp) (by simp [BAD]) (by simp) (by simp only [push_cast, reduceIte, Nat.reduceEqDiff, Nat.reduceAdd, Nat.reduceMul, Nat.reduceSub, Nat.reduceLT, Nat.reduceLeDiff, Nat.reduceBEq, Int.reduceLE, Int.reduceLT, Int.reduceEq, Int.reduceToNat, Int.reduceAdd, Int.reduceMul, Int.reduceSub, Int.reduceNeg, reduceCtorEq, if_true, if_false]) (by simp only [push_cast, reduceIte, Nat.reduceEqDiff, Nat.reduceAdd, Nat.reduceMul, Nat.reduceSub, Nat.reduceLT, Nat.reduceLeDiff, Nat.reduceBEq, Int.reduceLE, Int.reduceLT, Int.reduceEq, Int.reduceToNat, Int.reduceAdd, Int.reduceMul, Int.reduceSub, Int.reduceNeg, reduceCtorEq, if_true, if_false]) ?_
  rintro v H ⟨rfl, rfl⟩ _
  simp only [push_cast, reduceIte, Nat.reduceEqDiff, Nat.reduceAdd, Nat.reduceMul, Nat.reduceSub, Nat.reduceLT, Nat.reduceLeDiff, Nat.reduceBEq, Int.reduceLE, Int.reduceLT, Int.reduceEq, Int.reduceToNat, Int.reduceAdd, Int.reduceMul, Int.reduceSub, Int.reduceNeg, reduceCtorEq, if_true, if_false]
  have hb := p.best_lt hp c
  have w : IntKind.u64.wrap (p.best c : Int) = (p.best c : Int) := wrap_nat rfl (by show _ < 2 ^ 64; omega)
  by_cases h : 0 < p.best c
  · have d : decide ((0 : Int) < (p.best c : Int)) = true := by simpa using h
    have e1 : ishl .u32 1 (p.best c : Int) = ((2 ^ p.best c : Nat) : Int) := ishl_one rfl hb
    have e2 : iandNot .u32 (p.pend : Int) ((2 ^ p.best c : Nat) : Int) = ((ndiff p.pend (2 ^ p.best c) : Nat) : Int) := iandNot_nat rfl hp.pend (pow32 hb)
    have e3 : ior .u32 (p.busy : Int) ((2 ^ p.best c : Nat) : Int) = ((p.busy ||| 2 ^ p.best c : Nat) : Int) := ior_nat rfl hp.busy (pow32 hb)
    have hp1 : PS.ok { p with pend := ndiff p.pend (2 ^ p.best c) } := { hp with pend := ndiff_le _ _ hp.pend }
    simp -implicitDefEqProofs -dsimp only [go_sem, reduceIte, Nat.reduceEqDiff, Nat.reduceAdd, Nat.reduceMul, Nat.reduceSub, Nat.reduceLT, Nat.reduceLeDiff, Nat.reduceBEq, Int.reduceLE, Int.reduceLT, Int.reduceEq, Int.reduceToNat, Int.reduceAdd, Int.reduceMul, Int.reduceSub, Int.reduceNeg, reduceCtorEq, if_true, if_false, hX, d, e1, e2, e3, PB_wpend hp, PB_wbusy hp1, w]
    rw [PS.claim, if_pos h]
  · have d : decide ((0 : Int) < (p.best c : Int)) = false := by simpa using h
    simp -implicitDefEqProofs -dsimp only [go_sem, reduceIte, Nat.reduceEqDiff, Nat.reduceAdd, Nat.reduceMul, Nat.reduceSub, Nat.reduceLT, Nat.reduceLeDiff, Nat.reduceBEq, Int.reduceLE, Int.reduceLT, Int.reduceEq, Int.reduceToNat, Int.reduceAdd, Int.reduceMul, Int.reduceSub, Int.reduceNeg, reduceCtorEq, if_true, if_false, hX, d, w]
    rw [PS.claim, if_neg h]
def ctx (off first apart : Nat) : Nat × Bool := if off = first then (0, true) else if off = first + apart then (1, true) else (0, false)
theorem context_spec (GL : List (Nat × List Value)) (off first apart : Nat) (h : first + apart < 2 ^ 64) : SX.Spec Tryd.prog GL 31 0 [.int .u64 off, .int .u64 first, .int .u64 apart] [] (fun v H => v = .tuple ⟨[.int .i64 (ctx off first apart).1, .bool (ctx off first apart).2]⟩ ∧ H = []) := by
  refine spec_of_ev (fn := Tryd.f31) (by kernel_rfl) plic_context.ok plic_context.rok (Nat.le_of_ble_eq_true rfl) fun X hX hXn => ?_
  unfold plic_context.ic plic_context.rv
  simp -implicitDefEqProofs -dsimp only [go_sem, reduceIte, Nat.reduceEqDiff, Nat.reduceAdd, Nat.reduceMul, Nat.reduceSub, Nat.reduceLT, Nat.reduceLeDiff, Nat.reduceBEq, Int.reduceLE, Int.reduceLT, Int.reduceEq, Int.reduceToNat, Int.reduceAdd, Int.reduceMul, Int.reduceSub, Int.reduceNeg, reduceCtorEq, if_true, if_false, hX]
  have w0 : IntKind.u64.wrap ((apart : Int) * 0) = 0 := by rw [Int.mul_zero]; rfl
  have w1 : IntKind.u64.wrap ((apart : Int) * 1) = apart := by rw [Int.mul_one]; exact wrap_nat rfl (by show _ < 2 ^ 64; omega)
  have w2 : IntKind.u64.wrap ((first : Int) + 0) = first := by rw [Int.add_zero]; exact wrap_nat rfl (by show _ < 2 ^ 64; omega)
  have w3 : IntKind.u64.wrap ((first : Int) + apart) = ((first + apart : Nat) : Int) := by rw [← Int.natCast_add]; exact wrap_nat rfl (by show _ < 2 ^ 64; omega)
  have w4 : IntKind.u64.wrap 0 = 0 := rfl
  have w5 : IntKind.u64.wrap 1 = 1 := rfl
  have w6 : IntKind.i64.wrap 1 = 1 := rfl
  have w7 : IntKind.i64.wrap 2 = 2 := rfl
  refine ⟨fun t H m => ∃ (i : Int), ((i = 0 ∧ m = 2) ∨ (i = 1 ∧ m = 1 ∧ off ≠ first) ∨ (i = 2 ∧ m = 0 ∧ off ≠ first ∧ off ≠ first + apart)) ∧ t = [(0, .int .u64 off), (1, .int .u64 first), (2, .int .u64 apart), (9, .int .i64 i)] ∧ H = [], ?_, ?_⟩
  · refine ⟨[], _, _, by rw [hXn]; rfl, by decide, by decide, ?_, ?_, _, 0, .inl ⟨rfl, rfl⟩, rfl, rfl⟩
    · simp only [push_cast, reduceIte, Nat.reduceEqDiff, Nat.reduceAdd, Nat.reduceMul, Nat.reduceSub, Nat.reduceLT, Nat.reduceLeDiff, Nat.reduceBEq, Int.reduceLE, Int.reduceLT, Int.reduceEq, Int.reduceToNat, Int.reduceAdd, Int.reduceMul, Int.reduceSub, Int.reduceNeg, reduceCtorEq, if_true, if_false]
    · simp only [push_cast, reduceIte, Nat.reduceEqDiff, Nat.reduceAdd, Nat.reduceMul, Nat.reduceSub, Nat.reduceLT, Nat.reduceLeDiff, Nat.reduceBEq, Int.reduceLE, Int.reduceLT, Int.reduceEq, Int.reduceToNat, Int.reduceAdd, Int.reduceMul, Int.reduceSub, Int.reduceNeg, reduceCtorEq, if_true, if_false]
  rintro t H m ⟨i, hi, rfl, rfl⟩
  unfold plic_context.l2
  rcases hi with ⟨rfl, rfl⟩ | ⟨rfl, rfl, n1⟩ | ⟨rfl, rfl, n1, n2⟩
  · simp -implicitDefEqProofs -dsimp only [go_sem, reduceIte, Nat.reduceEqDiff, Nat.reduceAdd, Nat.reduceMul, Nat.reduceSub, Nat.reduceLT, Nat.reduceLeDiff, Nat.reduceBEq, Int.reduceLE, Int.reduceLT, Int.reduceEq, Int.reduceToNat, Int.reduceAdd, Int.reduceMul, Int.reduceSub, Int.reduceNeg, reduceCtorEq, if_true, if_false, hX, w4, w0, w2]
    by_cases h1 : off = first
    · have d : decide ((off : Int) = (first : Int)) = true := decide_eq_true (by omega)
      simp -implicitDefEqProofs -dsimp only [go_sem, reduceIte, Nat.reduceEqDiff, Nat.reduceAdd, Nat.reduceMul, Nat.reduceSub, Nat.reduceLT, Nat.reduceLeDiff, Nat.reduceBEq, Int.reduceLE, Int.reduceLT, Int.reduceEq, Int.reduceToNat, Int.reduceAdd, Int.reduceMul, Int.reduceSub, Int.reduceNeg, reduceCtorEq, if_true, if_false, hX, d]
      rw [ctx, if_pos h1]; rfl
    · have d : decide ((off : Int) = (first : Int)) = false := decide_eq_false (by omega)
      simp -implicitDefEqProofs -dsimp only [go_sem, reduceIte, Nat.reduceEqDiff, Nat.reduceAdd, Nat.reduceMul, Nat.reduceSub, Nat.reduceLT, Nat.reduceLeDiff, Nat.reduceBEq, Int.reduceLE, Int.reduceLT, Int.reduceEq, Int.reduceToNat, Int.reduceAdd, Int.reduceMul, Int.reduceSub, Int.reduceNeg, reduceCtorEq, if_true, if_false, hX, d, w6]
      refine ⟨[], _, _, by rw [hXn]; rfl, by decide, by decide, ?_, ?_, _, by decide, 1, .inr (.inl ⟨rfl, rfl, h1⟩), rfl, rfl⟩
      · simp only [push_cast, reduceIte, Nat.reduceEqDiff, Nat.reduceAdd, Nat.reduceMul, Nat.reduceSub, Nat.reduceLT, Nat.reduceLeDiff, Nat.reduceBEq, Int.reduceLE, Int.reduceLT, Int.reduceEq, Int.reduceToNat, Int.reduceAdd, Int.reduceMul, Int.reduceSub, Int.reduceNeg, reduceCtorEq, if_true, if_false]
      · simp only [push_cast, reduceIte, Nat.reduceEqDiff, Nat.reduceAdd, Nat.reduceMul, Nat.reduceSub, Nat.reduceLT, Nat.reduceLeDiff, Nat.reduceBEq, Int.reduceLE, Int.reduceLT, Int.reduceEq, Int.reduceToNat, Int.reduceAdd, Int.reduceMul, Int.reduceSub, Int.reduceNeg, reduceCtorEq, if_true, if_false]
  · simp -implicitDefEqProofs -dsimp only [go_sem, reduceIte, Nat.reduceEqDiff, Nat.reduceAdd, Nat.reduceMul, Nat.reduceSub, Nat.reduceLT, Nat.reduceLeDiff, Nat.reduceBEq, Int.reduceLE, Int.reduceLT, Int.reduceEq, Int.reduceToNat, Int.reduceAdd, Int.reduceMul, Int.reduceSub, Int.reduceNeg, reduceCtorEq, if_true, if_false, hX, w5, w1, w3]
    by_cases h1 : off = first + apart
    · have d : decide ((off : Int) = ((first + apart : Nat) : Int)) = true := decide_eq_true (by omega)
      simp -implicitDefEqProofs -dsimp only [go_sem, reduceIte, Nat.reduceEqDiff, Nat.reduceAdd, Nat.reduceMul, Nat.reduceSub, Nat.reduceLT, Nat.reduceLeDiff, Nat.reduceBEq, Int.reduceLE, Int.reduceLT, Int.reduceEq, Int.reduceToNat, Int.reduceAdd, Int.reduceMul, Int.reduceSub, Int.reduceNeg, reduceCtorEq, if_true, if_false, hX, d]
      rw [ctx, if_neg n1, if_pos h1]; rfl
    · have d : decide ((off : Int) = ((first + apart : Nat) : Int)) = false := decide_eq_false (by omega)
      simp -implicitDefEqProofs -dsimp only [go_sem, reduceIte, Nat.reduceEqDiff, Nat.reduceAdd, Nat.reduceMul, Nat.reduceSub, Nat.reduceLT, Nat.reduceLeDiff, Nat.reduceBEq, Int.reduceLE, Int.reduceLT, Int.reduceEq, Int.reduceToNat, Int.reduceAdd, Int.reduceMul, Int.reduceSub, Int.reduceNeg, reduceCtorEq, if_true, if_false, hX, d, w7]
      refine ⟨[], _, _, by rw [hXn]; rfl, by decide, by decide, ?_, ?_, _, by decide, 2, .inr (.inr ⟨rfl, rfl, n1, h1⟩), rfl, rfl⟩
      · simp only [push_cast, reduceIte, Nat.reduceEqDiff, Nat.reduceAdd, Nat.reduceMul, Nat.reduceSub, Nat.reduceLT, Nat.reduceLeDiff, Nat.reduceBEq, Int.reduceLE, Int.reduceLT, Int.reduceEq, Int.reduceToNat, Int.reduceAdd, Int.reduceMul, Int.reduceSub, Int.reduceNeg, reduceCtorEq, if_true, if_false]
      · simp only [push_cast, reduceIte, Nat.reduceEqDiff, Nat.reduceAdd, Nat.reduceMul, Nat.reduceSub, Nat.reduceLT, Nat.reduceLeDiff, Nat.reduceBEq, Int.reduceLE, Int.reduceLT, Int.reduceEq, Int.reduceToNat, Int.reduceAdd, Int.reduceMul, Int.reduceSub, Int.reduceNeg, reduceCtorEq, if_true, if_false]
  · simp -implicitDefEqProofs -dsimp only [go_sem, reduceIte, Nat.reduceEqDiff, Nat.reduceAdd, Nat.reduceMul, Nat.reduceSub, Nat.reduceLT, Nat.reduceLeDiff, Nat.reduceBEq, Int.reduceLE, Int.reduceLT, Int.reduceEq, Int.reduceToNat, Int.reduceAdd, Int.reduceMul, Int.reduceSub, Int.reduceNeg, reduceCtorEq, if_true, if_false, hX]
    rw [ctx, if_neg n1, if_neg n2]; rfl
def PS.zero : PS := ⟨0, 0, 0, List.replicate 32 0, 0, 0, 0, 0⟩
theorem PS.zero_ok : PS.zero.ok := ⟨by decide, by decide, by decide, rfl, fun i => by
  unfold PS.zero
  rw [List.getD_eq_getElem?_getD, List.getElem?_replicate]
  split <;> simp, by decide, by decide, by decide, by decide⟩
theorem z39_eq : z39 = PC PS.zero := by rfl
theorem flat_PB (p : PS) : SB.flat (PC p) 39 true = PB p := rfl
theorem PC_one (p : PS) : oneL (PC p) = true := by
  have : ∀ l : List Nat, oneL (l.map (fun n : Nat => Value.int .u8 n) ++ [Value.int .u32 p.on0, .int .u32 p.on1, .int .u8 p.f0, .int .u8 p.f1]) = true := by
    intro l
    induction l with
    | nil => rfl
    | cons n l ih => simp only [List.map_cons, List.cons_append, oneL, ih]; rfl
  simp only [PC, oneL, this]; rfl
theorem wrt_all {c d : List Value} {m : Nat} (hl : d.length = c.length) (h1 : oneL d = true) (h2 : leafL d = true) : wrt (some (.flat c m true)) 0 d = some (.flat d m true) := by
  simp only [wrt, h1, h2]
  rw [if_pos ⟨by omega, trivial⟩, if_pos trivial]
  have := setAll_end (cs := []) hl.symm
  simp only [List.nil_append, List.length_nil] at this
  rw [this]
theorem PB_wall {p q : PS} (hp : p.ok) (hq : q.ok) : wrt (some (PB q)) 0 (PC p) = some (PB p) := by
  rw [PB, wrt_all (by rw [PC_length hp, PC_length hq]) (PC_one p) (PC_leaf p)]; rfl
theorem new_plic_spec (GL : List (Nat × List Value)) : SX.Spec Tryd.prog GL 14 0 [] [] (fun v H => v = .agg ⟨PC PS.zero⟩ ∧ H = []) := by
  refine spec_sel (R := fun v H => v = .agg ⟨PC PS.zero⟩) ?_ ?_
  · refine spec_of_ev (fn := Tryd.f14) (by kernel_rfl) plic_New.ok plic_New.rok (Nat.le_of_ble_eq_true rfl) fun X hX hXn => ?_
    unfold plic_New.ic plic_New.rv
    have hz := PS.zero_ok
    simp -implicitDefEqProofs -dsimp only [go_sem, reduceIte, Nat.reduceEqDiff, Nat.reduceAdd, Nat.reduceMul, Nat.reduceSub, Nat.reduceLT, Nat.reduceLeDiff, Nat.reduceBEq, Int.reduceLE, Int.reduceLT, Int.reduceEq, Int.reduceToNat, Int.reduceAdd, Int.reduceMul, Int.reduceSub, Int.reduceNeg, reduceCtorEq, if_true, if_false, hX, z39_eq, PC_length hz, flat_PB, PB_wall hz hz, PB_all hz]
  · rintro v H rfl
    exact ⟨[], _, [], rfl, by decide, by simp, by simp [selH], by rw [SX.rid]; simp only [push_cast, reduceIte, Nat.reduceEqDiff, Nat.reduceAdd, Nat.reduceMul, Nat.reduceSub, Nat.reduceLT, Nat.reduceLeDiff, Nat.reduceBEq, Int.reduceLE, Int.reduceLT, Int.reduceEq, Int.reduceToNat, Int.reduceAdd, Int.reduceMul, Int.reduceSub, Int.reduceNeg, reduceCtorEq, if_true, if_false], rfl, rfl⟩
end Go.Proofs.YtbiaogehcnedmaaDoor
