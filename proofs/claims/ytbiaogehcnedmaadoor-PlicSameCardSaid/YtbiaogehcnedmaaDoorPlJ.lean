/-
  The document's plic: its places, written.
-/
import Derived.Test.YtbiaogehcnedmaaDoorPlI
set_option linter.unusedVariables false
set_option linter.unusedSimpArgs false
set_option maxRecDepth 100000
set_option maxHeartbeats 4000000
namespace Go.Proofs.YtbiaogehcnedmaaDoor
open Go Go.SX
theorem wm0 : IntKind.u64.wrap 0 = 0 := rfl
def PS.setOn (p : PS) (c : Int) (x : Nat) : PS := if c = 0 then { p with on0 := x } else { p with on1 := x }
theorem setOn_on (p : PS) (c : Int) (x : Nat) : (p.setOn c x).on c = x := by
  unfold PS.setOn PS.on
  split <;> rfl
theorem setOn_setOn (p : PS) (c : Int) (x y : Nat) : (p.setOn c x).setOn c y = p.setOn c y := by
  unfold PS.setOn
  split <;> rfl
theorem RP_won (p : PS) {c : Int} (hc : c = 0 ∨ c = 1) {i : Nat} (hi : i < 32) (b : Bool) : wrt (some (RP p)) (i * 6 + 4 + c.toNat) [.bool b] = some (RP (p.setOn c (setBit (p.on c) i b))) := by
  rcases hc with rfl | rfl
  · exact RP_w4 p hi b
  · exact RP_w5 p hi b
theorem half_bit (v i : Nat) : decide (((v / 2 ^ i : Nat) : Int).tmod 2 = 1) = v.testBit i := by
  have h := and_one_testBit v i
  rw [Nat.and_one_is_mod] at h
  rw [Int.tmod_eq_emod_of_nonneg (Int.natCast_nonneg _)]
  generalize v / 2 ^ i = w at *
  cases hb : v.testBit i
  · rw [hb] at h; exact decide_eq_false (by simp only [Bool.toNat_false] at h; omega)
  · rw [hb] at h; exact decide_eq_true (by simp only [Bool.toNat_true] at h; omega)
theorem wen_loop {GL : List (Nat × List Value)} {X : Cx} (hX : X.GL = GL) (hXn : X.n = 1) (p : PS) (hp : p.ok) (c : Int) (hc : c = 0 ∨ c = 1) (v : Nat) (hv : v < 2 ^ 64) (N : Nat) {Q : Exit → Env → List SB → Prop}
    (hQ : ∀ t, Q (.exit 2) t [RP (p.setOn c (ndiff (v % 2 ^ 32) 1))]) : LoopK X (ev X N Tryd.prog ref05_Plic_Write.l16) [(0, .pointer (some ⟨0, 0, none⟩)), (9, .int .i64 c), (11, .int .u64 v), (12, .int .i64 0)] [RP p] Q := by
  have hon : p.on c < 2 ^ 32 := by unfold PS.on; split; exact hp.on0; exact hp.on1
  have d3 : (0 ≤ c) = True := by simp; omega
  have d4 : (c < 2) = True := by simp; omega
  refine ⟨fun t H m => ∃ (i x : Nat), i ≤ 32 ∧ m = 32 - i ∧ x < 2 ^ 32 ∧ (∀ j, j < 32 → x.testBit j = if j < i then decide (0 < j) && v.testBit j else (p.on c).testBit j) ∧
    t = [(0, .pointer (some ⟨0, 0, none⟩)), (9, .int .i64 c), (11, .int .u64 (v / 2 ^ i : Nat)), (12, .int .i64 i)] ∧ H = [RP (p.setOn c x)], ?_, ?_⟩
  · refine ⟨[0], _, _, by rw [hXn]; rfl, by decide, by decide, ?_, ?_, 32, 0, p.on c, by omega, rfl, hon, fun j _ => by simp, rfl, rfl⟩
    · have : p.setOn c (p.on c) = p := by unfold PS.setOn PS.on; split <;> rfl
      simp only [this, push_cast, reduceIte, Nat.reduceEqDiff, Nat.reduceAdd, Nat.reduceMul, Nat.reduceSub, Nat.reduceLT, Nat.reduceLeDiff, Nat.reduceBEq, Int.reduceLE, Int.reduceLT, Int.reduceEq, Int.reduceToNat, Int.reduceAdd, Int.reduceMul, Int.reduceSub, Int.reduceNeg, reduceCtorEq, if_true, if_false]
    · simp only [Nat.pow_zero, Nat.div_one, push_cast, reduceIte, Nat.reduceEqDiff, Nat.reduceAdd, Nat.reduceMul, Nat.reduceSub, Nat.reduceLT, Nat.reduceLeDiff, Nat.reduceBEq, Int.reduceLE, Int.reduceLT, Int.reduceEq, Int.reduceToNat, Int.reduceAdd, Int.reduceMul, Int.reduceSub, Int.reduceNeg, reduceCtorEq, if_true, if_false]
  rintro t H m ⟨i, x, hi, rfl, hx, hbits, rfl, rfl⟩
  unfold ref05_Plic_Write.l16
  by_cases h32 : i = 32
  · subst h32
    simp -implicitDefEqProofs -dsimp only [go_sem, reduceIte, Nat.reduceEqDiff, Nat.reduceAdd, Nat.reduceMul, Nat.reduceSub, Nat.reduceLT, Nat.reduceLeDiff, Nat.reduceBEq, Int.reduceLE, Int.reduceLT, Int.reduceEq, Int.reduceToNat, Int.reduceAdd, Int.reduceMul, Int.reduceSub, Int.reduceNeg, reduceCtorEq, if_true, if_false, hX]
    have : x = ndiff (v % 2 ^ 32) 1 := by
      apply Nat.eq_of_testBit_eq
      intro j
      rw [testBit_ndiff, Nat.testBit_mod_two_pow]
      by_cases hj : j < 32
      · rw [hbits j hj, if_pos hj]
        have e1 : Nat.testBit 1 j = decide (j = 0) := by
          have := testBit_pow 0 j
          rw [Nat.pow_zero] at this
          rw [this]
          by_cases h : j = 0
          · simp [h]
          · simp [h]; omega
        rw [e1]
        by_cases h : j = 0
        · subst h; simp
        · have : 0 < j := by omega
          simp [hj, h, this]
      · rw [bit_out hx (by omega)]; simp [hj]
    rw [this]
    exact hQ _
  · have hi32 : i < 32 := by omega
    have d : decide ((i : Int) < 32) = true := decide_eq_true (by omega)
    have d1 : ((i : Int) < 32) = True := by simp; omega
    have w1 : IntKind.i64.wrap ((i : Int) + 1) = (i : Int) + 1 := wrap_i64 (by omega) (by omega)
    have hvi : v / 2 ^ i < 2 ^ 64 := Nat.lt_of_le_of_lt (Nat.div_le_self _ _) hv
    have w2 : IntKind.u64.wrap (((v / 2 ^ i : Nat) : Int).tdiv 2) = ((v / 2 ^ (i + 1) : Nat) : Int) := by
      rw [Int.tdiv_eq_ediv_of_nonneg (Int.natCast_nonneg _), Nat.pow_succ, ← Nat.div_div_eq_div_mul]
      generalize v / 2 ^ i = w at *
      rw [show (w : Int) / 2 = ((w / 2 : Nat) : Int) by omega]
      exact wrap_nat rfl (by show _ < 2 ^ 64; omega)
    have hb := half_bit v i
    have next : ∀ b : Bool, b = (decide (0 < i) && v.testBit i) → ∃ y, (p.setOn c x).setOn c (setBit ((p.setOn c x).on c) i b) = p.setOn c y ∧ y < 2 ^ 32 ∧ ∀ j, j < 32 → y.testBit j = if j < i + 1 then decide (0 < j) && v.testBit j else (p.on c).testBit j := by
      intro b hb
      refine ⟨setBit x i b, by rw [setOn_setOn, setOn_on], setBit_lt b hx hi32, fun j hj => ?_⟩
      rw [testBit_setBit, hbits j hj]
      by_cases e : j = i
      · subst e; rw [if_pos rfl, if_pos (by omega), hb]
      · rw [if_neg e]
        by_cases h : j < i
        · rw [if_pos h, if_pos (by omega)]
        · rw [if_neg h, if_neg (by omega)]
    have e4 := fun b => RP_won (p.setOn c x) hc hi32 b
    by_cases h0 : i = 0
    · have d5 : decide ((0 : Int) < (i : Int)) = false := decide_eq_false (by omega)
      obtain ⟨y, e1, e2, e3⟩ := next false (by simp [h0])
      simp -implicitDefEqProofs -dsimp only [go_sem, reduceIte, Nat.reduceEqDiff, Nat.reduceAdd, Nat.reduceMul, Nat.reduceSub, Nat.reduceLT, Nat.reduceLeDiff, Nat.reduceBEq, Int.reduceLE, Int.reduceLT, Int.reduceEq, Int.reduceToNat, Int.reduceAdd, Int.reduceMul, Int.reduceSub, Int.reduceNeg, reduceCtorEq, if_true, if_false, hX, d, d1, d3, d4, d5, e4, e1, w1, w2]
      refine ⟨[0], _, _, by rw [hXn]; rfl, by decide, by decide, ?_, ?_, _, by omega, i + 1, y, by omega, rfl, e2, e3, rfl, rfl⟩
      · simp only [push_cast, reduceIte, Nat.reduceEqDiff, Nat.reduceAdd, Nat.reduceMul, Nat.reduceSub, Nat.reduceLT, Nat.reduceLeDiff, Nat.reduceBEq, Int.reduceLE, Int.reduceLT, Int.reduceEq, Int.reduceToNat, Int.reduceAdd, Int.reduceMul, Int.reduceSub, Int.reduceNeg, reduceCtorEq, if_true, if_false]
      · simp only [push_cast, reduceIte, Nat.reduceEqDiff, Nat.reduceAdd, Nat.reduceMul, Nat.reduceSub, Nat.reduceLT, Nat.reduceLeDiff, Nat.reduceBEq, Int.reduceLE, Int.reduceLT, Int.reduceEq, Int.reduceToNat, Int.reduceAdd, Int.reduceMul, Int.reduceSub, Int.reduceNeg, reduceCtorEq, if_true, if_false]
    · have d5 : decide ((0 : Int) < (i : Int)) = true := decide_eq_true (by omega)
      obtain ⟨y, e1, e2, e3⟩ := next (v.testBit i) (by simp; omega)
      simp -implicitDefEqProofs -dsimp only [go_sem, reduceIte, Nat.reduceEqDiff, Nat.reduceAdd, Nat.reduceMul, Nat.reduceSub, Nat.reduceLT, Nat.reduceLeDiff, Nat.reduceBEq, Int.reduceLE, Int.reduceLT, Int.reduceEq, Int.reduceToNat, Int.reduceAdd, Int.reduceMul, Int.reduceSub, Int.reduceNeg, reduceCtorEq, if_true, if_false, hX, d, d1, d3, d4, d5, hb, e4, e1, w1, w2]
      refine ⟨[0], _, _, by rw [hXn]; rfl, by decide, by decide, ?_, ?_, _, by omega, i + 1, y, by omega, rfl, e2, e3, rfl, rfl⟩
      · simp only [push_cast, reduceIte, Nat.reduceEqDiff, Nat.reduceAdd, Nat.reduceMul, Nat.reduceSub, Nat.reduceLT, Nat.reduceLeDiff, Nat.reduceBEq, Int.reduceLE, Int.reduceLT, Int.reduceEq, Int.reduceToNat, Int.reduceAdd, Int.reduceMul, Int.reduceSub, Int.reduceNeg, reduceCtorEq, if_true, if_false]
      · simp only [push_cast, reduceIte, Nat.reduceEqDiff, Nat.reduceAdd, Nat.reduceMul, Nat.reduceSub, Nat.reduceLT, Nat.reduceLeDiff, Nat.reduceBEq, Int.reduceLE, Int.reduceLT, Int.reduceEq, Int.reduceToNat, Int.reduceAdd, Int.reduceMul, Int.reduceSub, Int.reduceNeg, reduceCtorEq, if_true, if_false]
theorem rwrite_spec (GL : List (Nat × List Value)) (p : PS) (hp : p.good) (off : Nat) (n : Int) (v : Nat) (ho : off < 2 ^ 64) (hv : v < 2 ^ 64) :
    SX.Spec Tryd.prog GL 35 1 [.pointer (some ⟨0, 0, none⟩), .int .u64 off, .int .i64 n, .int .u64 v] [RP p] (fun r H =>
      r = .bool (decide (n = 4) && (plDec off).is) ∧ H = [RP (if n = 4 then p.ws v (plDec off) else p)]) := by
  refine spec_of_ev (fn := Tryd.f35) (by kernel_rfl) ref05_Plic_Write.ok ref05_Plic_Write.rok (Nat.le_of_ble_eq_true rfl) fun X hX hXn => ?_
  unfold ref05_Plic_Write.ic ref05_Plic_Write.rv
  by_cases hn : ¬ n = 4
  · have d : decide (n = 4) = false := decide_eq_false hn
    simp -implicitDefEqProofs -dsimp only [go_sem, reduceIte, Nat.reduceEqDiff, Nat.reduceAdd, Nat.reduceMul, Nat.reduceSub, Nat.reduceLT, Nat.reduceLeDiff, Nat.reduceBEq, Int.reduceLE, Int.reduceLT, Int.reduceEq, Int.reduceToNat, Int.reduceAdd, Int.reduceMul, Int.reduceSub, Int.reduceNeg, reduceCtorEq, if_true, if_false, hX, d]
    simp [hn]
  replace hn : n = 4 := by omega
  subst hn
  simp only [decide_true, Bool.true_and, if_true]
  have a8 : (v : Int).tmod 8 = ((v % 8 : Nat) : Int) := by rw [Int.tmod_eq_emod_of_nonneg (Int.natCast_nonneg _)]; rfl
  have a32 : (v : Int).tmod 4294967296 = ((v % 2 ^ 32 : Nat) : Int) := by rw [Int.tmod_eq_emod_of_nonneg (Int.natCast_nonneg _)]; rfl
  by_cases h0 : off < 128 ∧ off % 4 = 0
  · have e : plDec off = .prio (off / 4) := by unfold plDec; rw [if_pos h0]
    rw [e]
    have d1 : decide ((off : Int) < 128) = true := decide_eq_true (by omega)
    have e1 : (off : Int).tmod 4 = ((off % 4 : Nat) : Int) := by rw [Int.tmod_eq_emod_of_nonneg (by omega)]; rfl
    have d2 : decide (((off % 4 : Nat) : Int) = 0) = true := decide_eq_true (by omega)
    have e2 : IntKind.u64.wrap ((off : Int).tdiv 4) = ((off / 4 : Nat) : Int) := by rw [Int.tdiv_eq_ediv_of_nonneg (by omega), (show (off : Int) / 4 = ((off / 4 : Nat) : Int) by omega)]; exact wrap_nat rfl (by show _ < 2 ^ 64; omega)
    have hi : off / 4 < 32 := by omega
    have d3 : (((off / 4 : Nat) : Int) < 32) = True := by simp only [eq_iff_iff, iff_true]; omega
    by_cases h3 : off = 0
    · have d4 : decide ((0 : Int) < (off : Int)) = false := decide_eq_false (by omega)
      simp -implicitDefEqProofs -dsimp only [go_sem, reduceIte, Nat.reduceEqDiff, Nat.reduceAdd, Nat.reduceMul, Nat.reduceSub, Nat.reduceLT, Nat.reduceLeDiff, Nat.reduceBEq, Int.reduceLE, Int.reduceLT, Int.reduceEq, Int.reduceToNat, Int.reduceAdd, Int.reduceMul, Int.reduceSub, Int.reduceNeg, reduceCtorEq, if_true, if_false, hX, d1, e1, d2, d4]
      exact ⟨rfl, by rw [PS.ws, if_pos (by omega)]⟩
    · have d4 : decide ((0 : Int) < (off : Int)) = true := decide_eq_true (by omega)
      simp -implicitDefEqProofs -dsimp only [go_sem, reduceIte, Nat.reduceEqDiff, Nat.reduceAdd, Nat.reduceMul, Nat.reduceSub, Nat.reduceLT, Nat.reduceLeDiff, Nat.reduceBEq, Int.reduceLE, Int.reduceLT, Int.reduceEq, Int.reduceToNat, Int.reduceAdd, Int.reduceMul, Int.reduceSub, Int.reduceNeg, reduceCtorEq, if_true, if_false, hX, d1, e1, d2, d4, e2, d3, a8, RP_w0 p hp.took hi]
      exact ⟨rfl, by rw [PS.ws, if_neg (by omega)]⟩
  by_cases hB : off = 4096
  · have e : plDec off = .pend := by subst hB; rfl
    rw [e]
    subst hB
    simp -implicitDefEqProofs -dsimp only [go_sem, reduceIte, Nat.reduceEqDiff, Nat.reduceAdd, Nat.reduceMul, Nat.reduceSub, Nat.reduceLT, Nat.reduceLeDiff, Nat.reduceBEq, Int.reduceLE, Int.reduceLT, Int.reduceEq, Int.reduceToNat, Int.reduceAdd, Int.reduceMul, Int.reduceSub, Int.reduceNeg, reduceCtorEq, if_true, if_false, hX]
    exact ⟨rfl, rfl⟩
  suffices hloop : LoopK X (ev X Tryd.f35.ntmps Tryd.prog ref05_Plic_Write.l10) [(0, .pointer (some ⟨0, 0, none⟩)), (1, .int .u64 off), (3, .int .u64 v), (9, .int .i64 0)] [RP p] (blockQ 0 (thenQ X Tryd.f35.ntmps Tryd.prog (some []) (.seq (.reg [⟨none, .mov 8 (.const (.bool false))⟩]) (some [8]) .ret) (finQ GL [.t 8] fun r H => r = .bool ((plDec off).is) ∧ H = [RP (p.ws v (plDec off))]))) by
    have d1 : decide ((off : Int) = 4096) = false := decide_eq_false (by omega)
    by_cases h128 : off < 128
    · have d2 : decide ((off : Int) < 128) = true := decide_eq_true (by omega)
      have d3 : decide ((off : Int).tmod 4 = 0) = false := by
        refine decide_eq_false ?_
        rw [Int.tmod_eq_emod_of_nonneg (by omega)]
        intro h4
        exact h0 ⟨h128, by omega⟩
      simp -implicitDefEqProofs -dsimp only [go_sem, reduceIte, Nat.reduceEqDiff, Nat.reduceAdd, Nat.reduceMul, Nat.reduceSub, Nat.reduceLT, Nat.reduceLeDiff, Nat.reduceBEq, Int.reduceLE, Int.reduceLT, Int.reduceEq, Int.reduceToNat, Int.reduceAdd, Int.reduceMul, Int.reduceSub, Int.reduceNeg, reduceCtorEq, if_true, if_false, hX, d1, d2, d3]
      exact hloop
    · have d2 : decide ((off : Int) < 128) = false := decide_eq_false (by omega)
      simp -implicitDefEqProofs -dsimp only [go_sem, reduceIte, Nat.reduceEqDiff, Nat.reduceAdd, Nat.reduceMul, Nat.reduceSub, Nat.reduceLT, Nat.reduceLeDiff, Nat.reduceBEq, Int.reduceLE, Int.reduceLT, Int.reduceEq, Int.reduceToNat, Int.reduceAdd, Int.reduceMul, Int.reduceSub, Int.reduceNeg, reduceCtorEq, if_true, if_false, hX, d1, d2]
      exact hloop
  have dec0 : plDec off = if off = 8192 then .en 0 else if off = 8320 then .en 1 else if off = 2097152 then .fl 0 else if off = 2101248 then .fl 1 else if off = 2097156 then .cl 0 else if off = 2101252 then .cl 1 else .none := by
    unfold plDec; rw [if_neg h0, if_neg hB]
  have hm := Nat.mod_lt v (show 0 < 2 ^ 32 by decide)
  have hcomp : ∀ (c : Int), (c = 0 ∨ c = 1) → ∀ w : Nat, w < 2 ^ 32 → p.complete c w = if 1 ≤ w ∧ w ≤ 31 ∧ (p.on c).testBit w = true ∧ p.busy.testBit w = true then PS.look { p with busy := setBit p.busy w false } w else p := by
    intro c hc w hw
    unfold PS.complete
    simp only [Nat.testBit_and, Bool.and_eq_true]
    by_cases h1 : 1 ≤ w
    · by_cases h2 : w ≤ 31 ∧ (p.on c).testBit w = true ∧ p.busy.testBit w = true
      · rw [if_pos ⟨h2.1, h2.2⟩, if_pos ⟨h1, h2⟩]; rfl
      · rw [if_neg (fun h => h2 ⟨h.1, h.2⟩), if_neg (fun h => h2 h.2)]
    · obtain rfl : w = 0 := by omega
      have : (p.on c).testBit 0 = false := by
        unfold PS.on
        split
        · exact hp.b0
        · exact hp.b1
      rw [if_neg (by rw [this]; simp), if_neg (by omega)]
  refine ⟨fun t H m => ∃ i : Int, ((i = 0 ∧ m = 2) ∨ (i = 1 ∧ m = 1 ∧ off ≠ 8192 ∧ off ≠ 2097152 ∧ off ≠ 2097156) ∨ (i = 2 ∧ m = 0 ∧ off ≠ 8192 ∧ off ≠ 2097152 ∧ off ≠ 2097156 ∧ off ≠ 8320 ∧ off ≠ 2101248 ∧ off ≠ 2101252)) ∧
    t = [(0, .pointer (some ⟨0, 0, none⟩)), (1, .int .u64 off), (3, .int .u64 v), (9, .int .i64 i)] ∧ H = [RP p], ?_, ?_⟩
  · refine ⟨[0], _, _, by rw [hXn]; rfl, by decide, by decide, ?_, ?_, _, 0, .inl ⟨rfl, rfl⟩, rfl, rfl⟩
    · simp only [push_cast, reduceIte, Nat.reduceEqDiff, Nat.reduceAdd, Nat.reduceMul, Nat.reduceSub, Nat.reduceLT, Nat.reduceLeDiff, Nat.reduceBEq, Int.reduceLE, Int.reduceLT, Int.reduceEq, Int.reduceToNat, Int.reduceAdd, Int.reduceMul, Int.reduceSub, Int.reduceNeg, reduceCtorEq, if_true, if_false]
    · simp only [push_cast, reduceIte, Nat.reduceEqDiff, Nat.reduceAdd, Nat.reduceMul, Nat.reduceSub, Nat.reduceLT, Nat.reduceLeDiff, Nat.reduceBEq, Int.reduceLE, Int.reduceLT, Int.reduceEq, Int.reduceToNat, Int.reduceAdd, Int.reduceMul, Int.reduceSub, Int.reduceNeg, reduceCtorEq, if_true, if_false]
  rintro t H m ⟨i, hi, rfl, rfl⟩
  unfold ref05_Plic_Write.l10
  rcases hi with ⟨rfl, rfl⟩ | ⟨rfl, rfl, n1, n2, n3⟩ | ⟨rfl, rfl, n1, n2, n3, n4, n5, n6⟩
  · by_cases c1 : off = 8192
    · subst c1
      simp -implicitDefEqProofs -dsimp only [go_sem, reduceIte, Nat.reduceEqDiff, Nat.reduceAdd, Nat.reduceMul, Nat.reduceSub, Nat.reduceLT, Nat.reduceLeDiff, Nat.reduceBEq, Int.reduceLE, Int.reduceLT, Int.reduceEq, Int.reduceToNat, Int.reduceAdd, Int.reduceMul, Int.reduceSub, Int.reduceNeg, reduceCtorEq, if_true, if_false, hX]
      refine wen_loop hX hXn p hp.took 0 (.inl rfl) v hv _ fun t => ?_
      simp -implicitDefEqProofs -dsimp only [go_sem, reduceIte, Nat.reduceEqDiff, Nat.reduceAdd, Nat.reduceMul, Nat.reduceSub, Nat.reduceLT, Nat.reduceLeDiff, Nat.reduceBEq, Int.reduceLE, Int.reduceLT, Int.reduceEq, Int.reduceToNat, Int.reduceAdd, Int.reduceMul, Int.reduceSub, Int.reduceNeg, reduceCtorEq, if_true, if_false, hX]
      exact ⟨rfl, rfl⟩
    have x1 : decide ((off : Int) = 8192) = false := decide_eq_false (by omega)
    by_cases c2 : off = 2097152
    · subst c2
      simp -implicitDefEqProofs -dsimp only [go_sem, reduceIte, Nat.reduceEqDiff, Nat.reduceAdd, Nat.reduceMul, Nat.reduceSub, Nat.reduceLT, Nat.reduceLeDiff, Nat.reduceBEq, Int.reduceLE, Int.reduceLT, Int.reduceEq, Int.reduceToNat, Int.reduceAdd, Int.reduceMul, Int.reduceSub, Int.reduceNeg, reduceCtorEq, if_true, if_false, hX, a8, RP_wf0 p]
      exact ⟨rfl, rfl⟩
    have x2 : decide ((off : Int) = 2097152) = false := decide_eq_false (by omega)
    by_cases c3 : off = 2097156
    · subst c3
      have hc := hcomp 0 (.inl rfl) _ hm
      have e : p.ws v (plDec 2097156) = p.complete 0 (v % 2 ^ 32) := rfl
      rw [e, hc]
      simp -implicitDefEqProofs -dsimp only [go_sem, reduceIte, Nat.reduceEqDiff, Nat.reduceAdd, Nat.reduceMul, Nat.reduceSub, Nat.reduceLT, Nat.reduceLeDiff, Nat.reduceBEq, Int.reduceLE, Int.reduceLT, Int.reduceEq, Int.reduceToNat, Int.reduceAdd, Int.reduceMul, Int.reduceSub, Int.reduceNeg, reduceCtorEq, if_true, if_false, hX, a32]
      generalize v % 2 ^ 32 = w at *
      have wi : IntKind.i64.wrap (w : Int) = w := wrap_i64 (by omega) (by omega)
      have hon : p.on 0 = p.on0 := rfl
      rw [hon]
      by_cases q1 : 1 ≤ w
      · have d1 : decide ((1 : Int) ≤ (w : Int)) = true := decide_eq_true (by omega)
        by_cases q2 : w ≤ 31
        · have d2 : decide ((w : Int) ≤ (31 : Int)) = true := decide_eq_true (by omega)
          have hw : w < 32 := by omega
          have d3 : ((w : Int) < 32) = True := by simp; omega
          cases q3 : p.on0.testBit w with
          | false =>
            rw [if_neg (by simp)]
            simp -implicitDefEqProofs -dsimp only [go_sem, reduceIte, Nat.reduceEqDiff, Nat.reduceAdd, Nat.reduceMul, Nat.reduceSub, Nat.reduceLT, Nat.reduceLeDiff, Nat.reduceBEq, Int.reduceLE, Int.reduceLT, Int.reduceEq, Int.reduceToNat, Int.reduceAdd, Int.reduceMul, Int.reduceSub, Int.reduceNeg, reduceCtorEq, if_true, if_false, hX, d1, d2, d3, RP_4 p hw, q3]
            first | done | rfl | exact ⟨rfl, rfl⟩
          | true =>
            cases q4 : p.busy.testBit w with
            | false =>
              rw [if_neg (by simp)]
              simp -implicitDefEqProofs -dsimp only [go_sem, reduceIte, Nat.reduceEqDiff, Nat.reduceAdd, Nat.reduceMul, Nat.reduceSub, Nat.reduceLT, Nat.reduceLeDiff, Nat.reduceBEq, Int.reduceLE, Int.reduceLT, Int.reduceEq, Int.reduceToNat, Int.reduceAdd, Int.reduceMul, Int.reduceSub, Int.reduceNeg, reduceCtorEq, if_true, if_false, hX, d1, d2, d3, RP_4 p hw, RP_3 p hw, q3, q4]
              first | done | rfl | exact ⟨rfl, rfl⟩
            | true =>
              rw [if_pos ⟨q1, q2, rfl, rfl⟩]
              have e2 := RP_w3 p hw false
              simp -implicitDefEqProofs -dsimp only [go_sem, reduceIte, Nat.reduceEqDiff, Nat.reduceAdd, Nat.reduceMul, Nat.reduceSub, Nat.reduceLT, Nat.reduceLeDiff, Nat.reduceBEq, Int.reduceLE, Int.reduceLT, Int.reduceEq, Int.reduceToNat, Int.reduceAdd, Int.reduceMul, Int.reduceSub, Int.reduceNeg, reduceCtorEq, if_true, if_false, hX, d1, d2, d3, RP_4 p hw, RP_3 p hw, q3, q4, e2, wi]
              refine call_of_spec (hX ▸ (rlook_spec GL { p with busy := setBit p.busy w false } w hw)) [0] (by decide) (by simp) (by simp [BAD]) (by simp) (by simp only [push_cast, reduceIte, Nat.reduceEqDiff, Nat.reduceAdd, Nat.reduceMul, Nat.reduceSub, Nat.reduceLT, Nat.reduceLeDiff, Nat.reduceBEq, Int.reduceLE, Int.reduceLT, Int.reduceEq, Int.reduceToNat, Int.reduceAdd, Int.reduceMul, Int.reduceSub, Int.reduceNeg, reduceCtorEq, if_true, if_false]) (by simp only [push_cast, reduceIte, Nat.reduceEqDiff, Nat.reduceAdd, Nat.reduceMul, Nat.reduceSub, Nat.reduceLT, Nat.reduceLeDiff, Nat.reduceBEq, Int.reduceLE, Int.reduceLT, Int.reduceEq, Int.reduceToNat, Int.reduceAdd, Int.reduceMul, Int.reduceSub, Int.reduceNeg, reduceCtorEq, if_true, if_false]) ?_
              rintro r H ⟨rfl, rfl⟩ _
              simp only [push_cast, reduceIte, Nat.reduceEqDiff, Nat.reduceAdd, Nat.reduceMul, Nat.reduceSub, Nat.reduceLT, Nat.reduceLeDiff, Nat.reduceBEq, Int.reduceLE, Int.reduceLT, Int.reduceEq, Int.reduceToNat, Int.reduceAdd, Int.reduceMul, Int.reduceSub, Int.reduceNeg, reduceCtorEq, if_true, if_false]
              simp -implicitDefEqProofs -dsimp only [go_sem, reduceIte, Nat.reduceEqDiff, Nat.reduceAdd, Nat.reduceMul, Nat.reduceSub, Nat.reduceLT, Nat.reduceLeDiff, Nat.reduceBEq, Int.reduceLE, Int.reduceLT, Int.reduceEq, Int.reduceToNat, Int.reduceAdd, Int.reduceMul, Int.reduceSub, Int.reduceNeg, reduceCtorEq, if_true, if_false, hX]
              first | done | exact ⟨rfl, rfl⟩ | rfl
        · have d2 : decide ((w : Int) ≤ (31 : Int)) = false := decide_eq_false (by omega)
          rw [if_neg (by omega)]
          simp -implicitDefEqProofs -dsimp only [go_sem, reduceIte, Nat.reduceEqDiff, Nat.reduceAdd, Nat.reduceMul, Nat.reduceSub, Nat.reduceLT, Nat.reduceLeDiff, Nat.reduceBEq, Int.reduceLE, Int.reduceLT, Int.reduceEq, Int.reduceToNat, Int.reduceAdd, Int.reduceMul, Int.reduceSub, Int.reduceNeg, reduceCtorEq, if_true, if_false, hX, d1, d2]
          first | done | rfl | exact ⟨rfl, rfl⟩
      · have d1 : decide ((1 : Int) ≤ (w : Int)) = false := decide_eq_false (by omega)
        rw [if_neg (by omega)]
        simp -implicitDefEqProofs -dsimp only [go_sem, reduceIte, Nat.reduceEqDiff, Nat.reduceAdd, Nat.reduceMul, Nat.reduceSub, Nat.reduceLT, Nat.reduceLeDiff, Nat.reduceBEq, Int.reduceLE, Int.reduceLT, Int.reduceEq, Int.reduceToNat, Int.reduceAdd, Int.reduceMul, Int.reduceSub, Int.reduceNeg, reduceCtorEq, if_true, if_false, hX, d1]
        first | done | rfl | exact ⟨rfl, rfl⟩
    have x3 : decide ((off : Int) = 2097156) = false := decide_eq_false (by omega)
    simp -implicitDefEqProofs -dsimp only [go_sem, reduceIte, Nat.reduceEqDiff, Nat.reduceAdd, Nat.reduceMul, Nat.reduceSub, Nat.reduceLT, Nat.reduceLeDiff, Nat.reduceBEq, Int.reduceLE, Int.reduceLT, Int.reduceEq, Int.reduceToNat, Int.reduceAdd, Int.reduceMul, Int.reduceSub, Int.reduceNeg, reduceCtorEq, if_true, if_false, hX, x1, x2, x3]
    refine ⟨[0], _, _, by rw [hXn]; rfl, by decide, by decide, ?_, ?_, _, by decide, 1, .inr (.inl ⟨rfl, rfl, c1, c2, c3⟩), rfl, rfl⟩
    · simp only [push_cast, reduceIte, Nat.reduceEqDiff, Nat.reduceAdd, Nat.reduceMul, Nat.reduceSub, Nat.reduceLT, Nat.reduceLeDiff, Nat.reduceBEq, Int.reduceLE, Int.reduceLT, Int.reduceEq, Int.reduceToNat, Int.reduceAdd, Int.reduceMul, Int.reduceSub, Int.reduceNeg, reduceCtorEq, if_true, if_false]
    · simp only [push_cast, reduceIte, Nat.reduceEqDiff, Nat.reduceAdd, Nat.reduceMul, Nat.reduceSub, Nat.reduceLT, Nat.reduceLeDiff, Nat.reduceBEq, Int.reduceLE, Int.reduceLT, Int.reduceEq, Int.reduceToNat, Int.reduceAdd, Int.reduceMul, Int.reduceSub, Int.reduceNeg, reduceCtorEq, if_true, if_false]
  · by_cases c1 : off = 8320
    · subst c1
      simp -implicitDefEqProofs -dsimp only [go_sem, reduceIte, Nat.reduceEqDiff, Nat.reduceAdd, Nat.reduceMul, Nat.reduceSub, Nat.reduceLT, Nat.reduceLeDiff, Nat.reduceBEq, Int.reduceLE, Int.reduceLT, Int.reduceEq, Int.reduceToNat, Int.reduceAdd, Int.reduceMul, Int.reduceSub, Int.reduceNeg, reduceCtorEq, if_true, if_false, hX]
      refine wen_loop hX hXn p hp.took 1 (.inr rfl) v hv _ fun t => ?_
      simp -implicitDefEqProofs -dsimp only [go_sem, reduceIte, Nat.reduceEqDiff, Nat.reduceAdd, Nat.reduceMul, Nat.reduceSub, Nat.reduceLT, Nat.reduceLeDiff, Nat.reduceBEq, Int.reduceLE, Int.reduceLT, Int.reduceEq, Int.reduceToNat, Int.reduceAdd, Int.reduceMul, Int.reduceSub, Int.reduceNeg, reduceCtorEq, if_true, if_false, hX]
      exact ⟨rfl, rfl⟩
    have x1 : decide ((off : Int) = 8320) = false := decide_eq_false (by omega)
    by_cases c2 : off = 2101248
    · subst c2
      simp -implicitDefEqProofs -dsimp only [go_sem, reduceIte, Nat.reduceEqDiff, Nat.reduceAdd, Nat.reduceMul, Nat.reduceSub, Nat.reduceLT, Nat.reduceLeDiff, Nat.reduceBEq, Int.reduceLE, Int.reduceLT, Int.reduceEq, Int.reduceToNat, Int.reduceAdd, Int.reduceMul, Int.reduceSub, Int.reduceNeg, reduceCtorEq, if_true, if_false, hX, a8, RP_wf1 p]
      exact ⟨rfl, rfl⟩
    have x2 : decide ((off : Int) = 2101248) = false := decide_eq_false (by omega)
    by_cases c3 : off = 2101252
    · subst c3
      have hc := hcomp 1 (.inr rfl) _ hm
      have e : p.ws v (plDec 2101252) = p.complete 1 (v % 2 ^ 32) := rfl
      rw [e, hc]
      simp -implicitDefEqProofs -dsimp only [go_sem, reduceIte, Nat.reduceEqDiff, Nat.reduceAdd, Nat.reduceMul, Nat.reduceSub, Nat.reduceLT, Nat.reduceLeDiff, Nat.reduceBEq, Int.reduceLE, Int.reduceLT, Int.reduceEq, Int.reduceToNat, Int.reduceAdd, Int.reduceMul, Int.reduceSub, Int.reduceNeg, reduceCtorEq, if_true, if_false, hX, a32]
      generalize v % 2 ^ 32 = w at *
      have wi : IntKind.i64.wrap (w : Int) = w := wrap_i64 (by omega) (by omega)
      have hon : p.on 1 = p.on1 := rfl
      rw [hon]
      by_cases q1 : 1 ≤ w
      · have d1 : decide ((1 : Int) ≤ (w : Int)) = true := decide_eq_true (by omega)
        by_cases q2 : w ≤ 31
        · have d2 : decide ((w : Int) ≤ (31 : Int)) = true := decide_eq_true (by omega)
          have hw : w < 32 := by omega
          have d3 : ((w : Int) < 32) = True := by simp; omega
          cases q3 : p.on1.testBit w with
          | false =>
            rw [if_neg (by simp)]
            simp -implicitDefEqProofs -dsimp only [go_sem, reduceIte, Nat.reduceEqDiff, Nat.reduceAdd, Nat.reduceMul, Nat.reduceSub, Nat.reduceLT, Nat.reduceLeDiff, Nat.reduceBEq, Int.reduceLE, Int.reduceLT, Int.reduceEq, Int.reduceToNat, Int.reduceAdd, Int.reduceMul, Int.reduceSub, Int.reduceNeg, reduceCtorEq, if_true, if_false, hX, d1, d2, d3, RP_5 p hw, q3]
            first | done | rfl | exact ⟨rfl, rfl⟩
          | true =>
            cases q4 : p.busy.testBit w with
            | false =>
              rw [if_neg (by simp)]
              simp -implicitDefEqProofs -dsimp only [go_sem, reduceIte, Nat.reduceEqDiff, Nat.reduceAdd, Nat.reduceMul, Nat.reduceSub, Nat.reduceLT, Nat.reduceLeDiff, Nat.reduceBEq, Int.reduceLE, Int.reduceLT, Int.reduceEq, Int.reduceToNat, Int.reduceAdd, Int.reduceMul, Int.reduceSub, Int.reduceNeg, reduceCtorEq, if_true, if_false, hX, d1, d2, d3, RP_5 p hw, RP_3 p hw, q3, q4]
              first | done | rfl | exact ⟨rfl, rfl⟩
            | true =>
              rw [if_pos ⟨q1, q2, rfl, rfl⟩]
              have e2 := RP_w3 p hw false
              simp -implicitDefEqProofs -dsimp only [go_sem, reduceIte, Nat.reduceEqDiff, Nat.reduceAdd, Nat.reduceMul, Nat.reduceSub, Nat.reduceLT, Nat.reduceLeDiff, Nat.reduceBEq, Int.reduceLE, Int.reduceLT, Int.reduceEq, Int.reduceToNat, Int.reduceAdd, Int.reduceMul, Int.reduceSub, Int.reduceNeg, reduceCtorEq, if_true, if_false, hX, d1, d2, d3, RP_5 p hw, RP_3 p hw, q3, q4, e2, wi]
              refine call_of_spec (hX ▸ (rlook_spec GL { p with busy := setBit p.busy w false } w hw)) [0] (by decide) (by simp) (by simp [BAD]) (by simp) (by simp only [push_cast, reduceIte, Nat.reduceEqDiff, Nat.reduceAdd, Nat.reduceMul, Nat.reduceSub, Nat.reduceLT, Nat.reduceLeDiff, Nat.reduceBEq, Int.reduceLE, Int.reduceLT, Int.reduceEq, Int.reduceToNat, Int.reduceAdd, Int.reduceMul, Int.reduceSub, Int.reduceNeg, reduceCtorEq, if_true, if_false]) (by simp only [push_cast, reduceIte, Nat.reduceEqDiff, Nat.reduceAdd, Nat.reduceMul, Nat.reduceSub, Nat.reduceLT, Nat.reduceLeDiff, Nat.reduceBEq, Int.reduceLE, Int.reduceLT, Int.reduceEq, Int.reduceToNat, Int.reduceAdd, Int.reduceMul, Int.reduceSub, Int.reduceNeg, reduceCtorEq, if_true, if_false]) ?_
              rintro r H ⟨rfl, rfl⟩ _
              simp only [push_cast, reduceIte, Nat.reduceEqDiff, Nat.reduceAdd, Nat.reduceMul, Nat.reduceSub, Nat.reduceLT, Nat.reduceLeDiff, Nat.reduceBEq, Int.reduceLE, Int.reduceLT, Int.reduceEq, Int.reduceToNat, Int.reduceAdd, Int.reduceMul, Int.reduceSub, Int.reduceNeg, reduceCtorEq, if_true, if_false]
              simp -implicitDefEqProofs -dsimp only [go_sem, reduceIte, Nat.reduceEqDiff, Nat.reduceAdd, Nat.reduceMul, Nat.reduceSub, Nat.reduceLT, Nat.reduceLeDiff, Nat.reduceBEq, Int.reduceLE, Int.reduceLT, Int.reduceEq, Int.reduceToNat, Int.reduceAdd, Int.reduceMul, Int.reduceSub, Int.reduceNeg, reduceCtorEq, if_true, if_false, hX]
              first | done | exact ⟨rfl, rfl⟩ | rfl
        · have d2 : decide ((w : Int) ≤ (31 : Int)) = false := decide_eq_false (by omega)
          rw [if_neg (by omega)]
          simp -implicitDefEqProofs -dsimp only [go_sem, reduceIte, Nat.reduceEqDiff, Nat.reduceAdd, Nat.reduceMul, Nat.reduceSub, Nat.reduceLT, Nat.reduceLeDiff, Nat.reduceBEq, Int.reduceLE, Int.reduceLT, Int.reduceEq, Int.reduceToNat, Int.reduceAdd, Int.reduceMul, Int.reduceSub, Int.reduceNeg, reduceCtorEq, if_true, if_false, hX, d1, d2]
          first | done | rfl | exact ⟨rfl, rfl⟩
      · have d1 : decide ((1 : Int) ≤ (w : Int)) = false := decide_eq_false (by omega)
        rw [if_neg (by omega)]
        simp -implicitDefEqProofs -dsimp only [go_sem, reduceIte, Nat.reduceEqDiff, Nat.reduceAdd, Nat.reduceMul, Nat.reduceSub, Nat.reduceLT, Nat.reduceLeDiff, Nat.reduceBEq, Int.reduceLE, Int.reduceLT, Int.reduceEq, Int.reduceToNat, Int.reduceAdd, Int.reduceMul, Int.reduceSub, Int.reduceNeg, reduceCtorEq, if_true, if_false, hX, d1]
        first | done | rfl | exact ⟨rfl, rfl⟩
    have x3 : decide ((off : Int) = 2101252) = false := decide_eq_false (by omega)
    simp -implicitDefEqProofs -dsimp only [go_sem, reduceIte, Nat.reduceEqDiff, Nat.reduceAdd, Nat.reduceMul, Nat.reduceSub, Nat.reduceLT, Nat.reduceLeDiff, Nat.reduceBEq, Int.reduceLE, Int.reduceLT, Int.reduceEq, Int.reduceToNat, Int.reduceAdd, Int.reduceMul, Int.reduceSub, Int.reduceNeg, reduceCtorEq, if_true, if_false, hX, x1, x2, x3]
    refine ⟨[0], _, _, by rw [hXn]; rfl, by decide, by decide, ?_, ?_, _, by decide, 2, .inr (.inr ⟨rfl, rfl, n1, n2, n3, c1, c2, c3⟩), rfl, rfl⟩
    · simp only [push_cast, reduceIte, Nat.reduceEqDiff, Nat.reduceAdd, Nat.reduceMul, Nat.reduceSub, Nat.reduceLT, Nat.reduceLeDiff, Nat.reduceBEq, Int.reduceLE, Int.reduceLT, Int.reduceEq, Int.reduceToNat, Int.reduceAdd, Int.reduceMul, Int.reduceSub, Int.reduceNeg, reduceCtorEq, if_true, if_false]
    · simp only [push_cast, reduceIte, Nat.reduceEqDiff, Nat.reduceAdd, Nat.reduceMul, Nat.reduceSub, Nat.reduceLT, Nat.reduceLeDiff, Nat.reduceBEq, Int.reduceLE, Int.reduceLT, Int.reduceEq, Int.reduceToNat, Int.reduceAdd, Int.reduceMul, Int.reduceSub, Int.reduceNeg, reduceCtorEq, if_true, if_false]
  · have e : plDec off = .none := by rw [dec0]; simp [n1, n2, n3, n4, n5, n6]
    rw [e]
    simp -implicitDefEqProofs -dsimp only [go_sem, reduceIte, Nat.reduceEqDiff, Nat.reduceAdd, Nat.reduceMul, Nat.reduceSub, Nat.reduceLT, Nat.reduceLeDiff, Nat.reduceBEq, Int.reduceLE, Int.reduceLT, Int.reduceEq, Int.reduceToNat, Int.reduceAdd, Int.reduceMul, Int.reduceSub, Int.reduceNeg, reduceCtorEq, if_true, if_false, hX]
    exact ⟨rfl, rfl⟩
end Go.Proofs.YtbiaogehcnedmaaDoor
