/-
  A plic's places: read, written.
-/
import Derived.Test.YtbiaogehcnedmaaDoorPlE
set_option linter.unusedVariables false
set_option linter.unusedSimpArgs false
set_option maxRecDepth 100000
set_option maxHeartbeats 1000000
namespace Go.Proofs.YtbiaogehcnedmaaDoor
open Go Go.SX
/-- What stands at an offset. -/
inductive Pl where
  | prio (i : Nat)
  | pend
  | en (c : Nat)
  | fl (c : Nat)
  | cl (c : Nat)
  | none
def plDec (off : Nat) : Pl :=
  if off < 128 ∧ off % 4 = 0 then .prio (off / 4) else if off = 4096 then .pend else if off = 8192 then .en 0 else if off = 8320 then .en 1
  else if off = 2097152 then .fl 0 else if off = 2101248 then .fl 1 else if off = 2097156 then .cl 0 else if off = 2101252 then .cl 1 else .none
def Pl.is : Pl → Bool
  | .none => false
  | _ => true
def PS.rv (p : PS) : Pl → Nat
  | .prio i => p.prio.getD i 0
  | .pend => p.pend
  | .en c => p.on c
  | .fl c => p.fl c
  | .cl c => p.best c
  | .none => 0
def PS.rs (p : PS) : Pl → PS
  | .cl c => p.claim c
  | _ => p
def PS.complete (p : PS) (c : Int) (v : Nat) : PS := if v ≤ 31 ∧ (p.on c &&& p.busy).testBit v = true then PS.look { p with busy := ndiff p.busy (2 ^ v) } v else p
def PS.ws (p : PS) (v : Nat) : Pl → PS
  | .prio i => if i = 0 then p else { p with prio := p.prio.set i (v % 8) }
  | .en c => if c = 0 then { p with on0 := ndiff (v % 2 ^ 32) 1 } else { p with on1 := ndiff (v % 2 ^ 32) 1 }
  | .fl c => if c = 0 then { p with f0 := v % 8 } else { p with f1 := v % 8 }
  | .cl c => p.complete c (v % 2 ^ 32)
  | _ => p
theorem PS.rs_ok {p : PS} (h : p.ok) (d : Pl) : (p.rs d).ok := by cases d <;> first | exact h | exact p.claim_ok h _
theorem getD_set (l : List Nat) (i j x : Nat) (hi : i < l.length) : (l.set i x).getD j 0 = if i = j then x else l.getD j 0 := by
  rw [List.getD_eq_getElem?_getD, List.getD_eq_getElem?_getD, List.getElem?_set]
  split
  · rename_i h; subst h; simp [hi]
  · rfl
theorem PS.ws_ok {p : PS} (h : p.ok) (v : Nat) {off : Nat} : (p.ws v (plDec off)).ok := by
  have h8 : v % 8 < 256 := by omega
  have hn : ndiff (v % 2 ^ 32) 1 < 2 ^ 32 := ndiff_le _ _ (Nat.mod_lt _ (by decide))
  unfold plDec
  split
  · rename_i ho
    simp only [PS.ws]
    split
    · exact h
    · refine { h with len := by simp [h.len], prio := fun i => ?_ }
      simp only
      rw [getD_set _ _ _ _ (by rw [h.len]; omega)]
      split
      · exact h8
      · exact h.prio i
  · repeat' split
    all_goals simp only [PS.ws]
    · exact h
    · exact { h with on0 := hn }
    · exact { h with on1 := hn }
    · exact { h with f0 := h8 }
    · exact { h with f1 := h8 }
    iterate 2
      · unfold PS.complete
        split
        · rename_i hc
          refine PS.look_ok ?_ (by omega)
          exact ⟨h.up, h.pend, ndiff_le _ _ h.busy, h.len, h.prio, h.on0, h.on1, h.f0, h.f1⟩
        · exact h
    · exact h
theorem plDec_cases (off : Nat) : (off < 128 ∧ off % 4 = 0 ∧ plDec off = .prio (off / 4)) ∨ (¬ (off < 128 ∧ off % 4 = 0) ∧ ((off = 4096 ∧ plDec off = .pend) ∨ (off = 8192 ∧ plDec off = .en 0) ∨ (off = 8320 ∧ plDec off = .en 1) ∨
    (off = 2097152 ∧ plDec off = .fl 0) ∨ (off = 2101248 ∧ plDec off = .fl 1) ∨ (off = 2097156 ∧ plDec off = .cl 0) ∨ (off = 2101252 ∧ plDec off = .cl 1) ∨
    (off ≠ 4096 ∧ off ≠ 8192 ∧ off ≠ 8320 ∧ off ≠ 2097152 ∧ off ≠ 2101248 ∧ off ≠ 2097156 ∧ off ≠ 2101252 ∧ plDec off = .none))) := by
  unfold plDec
  by_cases h : off < 128 ∧ off % 4 = 0
  · exact .inl ⟨h.1, h.2, by rw [if_pos h]⟩
  · refine .inr ⟨h, ?_⟩
    rw [if_neg h]
    by_cases h1 : off = 4096
    · exact .inl ⟨h1, by rw [if_pos h1]⟩
    refine .inr ?_; rw [if_neg h1]
    by_cases h2 : off = 8192
    · exact .inl ⟨h2, by rw [if_pos h2]⟩
    refine .inr ?_; rw [if_neg h2]
    by_cases h3 : off = 8320
    · exact .inl ⟨h3, by rw [if_pos h3]⟩
    refine .inr ?_; rw [if_neg h3]
    by_cases h4 : off = 2097152
    · exact .inl ⟨h4, by rw [if_pos h4]⟩
    refine .inr ?_; rw [if_neg h4]
    by_cases h5 : off = 2101248
    · exact .inl ⟨h5, by rw [if_pos h5]⟩
    refine .inr ?_; rw [if_neg h5]
    by_cases h6 : off = 2097156
    · exact .inl ⟨h6, by rw [if_pos h6]⟩
    refine .inr ?_; rw [if_neg h6]
    by_cases h7 : off = 2101252
    · exact .inl ⟨h7, by rw [if_pos h7]⟩
    exact .inr ⟨h1, h2, h3, h4, h5, h6, h7, by rw [if_neg h7]⟩
theorem read_plic_spec (GL : List (Nat × List Value)) (hG : lookG GL (GB + 1) = some (.flat tzT 64 false)) (p : PS) (hp : p.ok) (off : Nat) (n : Int) (ho : off < 2 ^ 64) :
    SX.Spec Tryd.prog GL 15 1 [.pointer (some ⟨0, 0, none⟩), .int .u64 off, .int .i64 n] [PB p] (fun v H =>
      v = .tuple ⟨[.int .u64 ((if n = 4 then p.rv (plDec off) else 0 : Nat) : Int), .bool (decide (n = 4) && (plDec off).is)]⟩ ∧ H = [PB (if n = 4 then p.rs (plDec off) else p)]) := by
  refine spec_of_ev (fn := Tryd.f15) (by kernel_rfl) plic_Plic_Read.ok plic_Plic_Read.rok (Nat.le_of_ble_eq_true rfl) fun X hX hXn => ?_
  unfold plic_Plic_Read.ic plic_Plic_Read.rv
  by_cases hn : ¬ n = 4
  · have d : decide (n = 4) = false := decide_eq_false hn
    simp -implicitDefEqProofs -dsimp only [go_sem, reduceIte, Nat.reduceEqDiff, Nat.reduceAdd, Nat.reduceMul, Nat.reduceSub, Nat.reduceLT, Nat.reduceLeDiff, Nat.reduceBEq, Int.reduceLE, Int.reduceLT, Int.reduceEq, Int.reduceToNat, Int.reduceAdd, Int.reduceMul, Int.reduceSub, Int.reduceNeg, reduceCtorEq, if_true, if_false, hX, d]
    simp [hn]
  replace hn : n = 4 := by omega
  subst hn
  simp only [decide_true, Bool.true_and, if_true]
  rcases plDec_cases off with ⟨h1, h2, e⟩ | ⟨h0, h⟩
  · rw [e]
    have d1 : decide ((off : Int) < 128) = true := decide_eq_true (by omega)
    have e1 : (off : Int).tmod 4 = ((off % 4 : Nat) : Int) := by rw [Int.tmod_eq_emod_of_nonneg (by omega)]; rfl
    have d2 : decide (((off % 4 : Nat) : Int) = 0) = true := decide_eq_true (by omega)
    have e2 : IntKind.u64.wrap ((off : Int).tdiv 4) = ((off / 4 : Nat) : Int) := by rw [Int.tdiv_eq_ediv_of_nonneg (by omega), (show (off : Int) / 4 = ((off / 4 : Nat) : Int) by omega)]; exact wrap_nat rfl (by show _ < 2 ^ 64; omega)
    have hi : off / 4 < 32 := by omega
    have d3 : (((off / 4 : Nat) : Int) < 32) = True := by simp only [eq_iff_iff, iff_true]; omega
    have e3 : IntKind.u64.wrap ((p.prio.getD (off / 4) 0 : Nat) : Int) = ((p.prio.getD (off / 4) 0 : Nat) : Int) := wrap_nat rfl (Nat.lt_trans (hp.prio _) (by decide))
    simp -implicitDefEqProofs -dsimp only [go_sem, reduceIte, Nat.reduceEqDiff, Nat.reduceAdd, Nat.reduceMul, Nat.reduceSub, Nat.reduceLT, Nat.reduceLeDiff, Nat.reduceBEq, Int.reduceLE, Int.reduceLT, Int.reduceEq, Int.reduceToNat, Int.reduceAdd, Int.reduceMul, Int.reduceSub, Int.reduceNeg, reduceCtorEq, if_true, if_false, hX, d1, e1, d2, e2, d3, PB_prio hp hi, e3]
    exact ⟨rfl, rfl⟩
  have c1 : (if decide ((off : Int) < 128) = true then decide ((off : Int).tmod 4 = 0) else false) = false := by
    split
    · rename_i h1
      refine decide_eq_false ?_
      rw [Int.tmod_eq_emod_of_nonneg (by omega)]
      have := of_decide_eq_true h1
      omega
    · rfl
  have nope : ∀ {K : Prop}, off < 128 → off % 4 = 0 → K := fun a b => absurd ⟨a, b⟩ h0
  have w1 : IntKind.u64.wrap (p.pend : Int) = p.pend := wrap_nat rfl (Nat.lt_trans hp.pend (by decide))
  have w2 : IntKind.u64.wrap (p.on0 : Int) = p.on0 := wrap_nat rfl (Nat.lt_trans hp.on0 (by decide))
  have w3 : IntKind.u64.wrap (p.on1 : Int) = p.on1 := wrap_nat rfl (Nat.lt_trans hp.on1 (by decide))
  have w4 : IntKind.u64.wrap (p.f0 : Int) = p.f0 := wrap_nat rfl (Nat.lt_trans hp.f0 (by decide))
  have w5 : IntKind.u64.wrap (p.f1 : Int) = p.f1 := wrap_nat rfl (Nat.lt_trans hp.f1 (by decide))
  have k1 := fun off => context_spec GL off 8192 128 (by decide)
  have k2 := fun off => context_spec GL off 2097152 4096 (by decide)
  have k3 := fun off => context_spec GL off 2097156 4096 (by decide)
  rcases h with ⟨rfl, e⟩ | ⟨rfl, e⟩ | ⟨rfl, e⟩ | ⟨rfl, e⟩ | ⟨rfl, e⟩ | ⟨rfl, e⟩ | ⟨rfl, e⟩ | ⟨n1, n2, n3, n4, n5, n6, n7, e⟩
  all_goals rw [e]
  · simp -implicitDefEqProofs -dsimp only [go_sem, reduceIte, Nat.reduceEqDiff, Nat.reduceAdd, Nat.reduceMul, Nat.reduceSub, Nat.reduceLT, Nat.reduceLeDiff, Nat.reduceBEq, Int.reduceLE, Int.reduceLT, Int.reduceEq, Int.reduceToNat, Int.reduceAdd, Int.reduceMul, Int.reduceSub, Int.reduceNeg, reduceCtorEq, if_true, if_false, hX, w1]
    exact ⟨rfl, rfl⟩
  · simp -implicitDefEqProofs -dsimp only [go_sem, reduceIte, Nat.reduceEqDiff, Nat.reduceAdd, Nat.reduceMul, Nat.reduceSub, Nat.reduceLT, Nat.reduceLeDiff, Nat.reduceBEq, Int.reduceLE, Int.reduceLT, Int.reduceEq, Int.reduceToNat, Int.reduceAdd, Int.reduceMul, Int.reduceSub, Int.reduceNeg, reduceCtorEq, if_true, if_false, hX]
    refine call_leaf hX (k1 8192) rfl rfl (by simp [BAD]) ?_
    simp -implicitDefEqProofs -dsimp only [go_sem, reduceIte, Nat.reduceEqDiff, Nat.reduceAdd, Nat.reduceMul, Nat.reduceSub, Nat.reduceLT, Nat.reduceLeDiff, Nat.reduceBEq, Int.reduceLE, Int.reduceLT, Int.reduceEq, Int.reduceToNat, Int.reduceAdd, Int.reduceMul, Int.reduceSub, Int.reduceNeg, reduceCtorEq, if_true, if_false, hX, (by decide : ctx 8192 8192 128 = (0, true)), PB_on0 hp, w2]
    exact ⟨rfl, rfl⟩
  · simp -implicitDefEqProofs -dsimp only [go_sem, reduceIte, Nat.reduceEqDiff, Nat.reduceAdd, Nat.reduceMul, Nat.reduceSub, Nat.reduceLT, Nat.reduceLeDiff, Nat.reduceBEq, Int.reduceLE, Int.reduceLT, Int.reduceEq, Int.reduceToNat, Int.reduceAdd, Int.reduceMul, Int.reduceSub, Int.reduceNeg, reduceCtorEq, if_true, if_false, hX]
    refine call_leaf hX (k1 8320) rfl rfl (by simp [BAD]) ?_
    simp -implicitDefEqProofs -dsimp only [go_sem, reduceIte, Nat.reduceEqDiff, Nat.reduceAdd, Nat.reduceMul, Nat.reduceSub, Nat.reduceLT, Nat.reduceLeDiff, Nat.reduceBEq, Int.reduceLE, Int.reduceLT, Int.reduceEq, Int.reduceToNat, Int.reduceAdd, Int.reduceMul, Int.reduceSub, Int.reduceNeg, reduceCtorEq, if_true, if_false, hX, (by decide : ctx 8320 8192 128 = (1, true)), PB_on1 hp, w3]
    exact ⟨rfl, rfl⟩
  · simp -implicitDefEqProofs -dsimp only [go_sem, reduceIte, Nat.reduceEqDiff, Nat.reduceAdd, Nat.reduceMul, Nat.reduceSub, Nat.reduceLT, Nat.reduceLeDiff, Nat.reduceBEq, Int.reduceLE, Int.reduceLT, Int.reduceEq, Int.reduceToNat, Int.reduceAdd, Int.reduceMul, Int.reduceSub, Int.reduceNeg, reduceCtorEq, if_true, if_false, hX]
    refine call_leaf hX (k1 2097152) rfl rfl (by simp [BAD]) ?_
    simp -implicitDefEqProofs -dsimp only [go_sem, reduceIte, Nat.reduceEqDiff, Nat.reduceAdd, Nat.reduceMul, Nat.reduceSub, Nat.reduceLT, Nat.reduceLeDiff, Nat.reduceBEq, Int.reduceLE, Int.reduceLT, Int.reduceEq, Int.reduceToNat, Int.reduceAdd, Int.reduceMul, Int.reduceSub, Int.reduceNeg, reduceCtorEq, if_true, if_false, hX, (by decide : ctx 2097152 8192 128 = (0, false))]
    refine call_leaf hX (k2 2097152) rfl rfl (by simp [BAD]) ?_
    simp -implicitDefEqProofs -dsimp only [go_sem, reduceIte, Nat.reduceEqDiff, Nat.reduceAdd, Nat.reduceMul, Nat.reduceSub, Nat.reduceLT, Nat.reduceLeDiff, Nat.reduceBEq, Int.reduceLE, Int.reduceLT, Int.reduceEq, Int.reduceToNat, Int.reduceAdd, Int.reduceMul, Int.reduceSub, Int.reduceNeg, reduceCtorEq, if_true, if_false, hX, (by decide : ctx 2097152 2097152 4096 = (0, true)), PB_f0 hp, w4]
    exact ⟨rfl, rfl⟩
  · simp -implicitDefEqProofs -dsimp only [go_sem, reduceIte, Nat.reduceEqDiff, Nat.reduceAdd, Nat.reduceMul, Nat.reduceSub, Nat.reduceLT, Nat.reduceLeDiff, Nat.reduceBEq, Int.reduceLE, Int.reduceLT, Int.reduceEq, Int.reduceToNat, Int.reduceAdd, Int.reduceMul, Int.reduceSub, Int.reduceNeg, reduceCtorEq, if_true, if_false, hX]
    refine call_leaf hX (k1 2101248) rfl rfl (by simp [BAD]) ?_
    simp -implicitDefEqProofs -dsimp only [go_sem, reduceIte, Nat.reduceEqDiff, Nat.reduceAdd, Nat.reduceMul, Nat.reduceSub, Nat.reduceLT, Nat.reduceLeDiff, Nat.reduceBEq, Int.reduceLE, Int.reduceLT, Int.reduceEq, Int.reduceToNat, Int.reduceAdd, Int.reduceMul, Int.reduceSub, Int.reduceNeg, reduceCtorEq, if_true, if_false, hX, (by decide : ctx 2101248 8192 128 = (0, false))]
    refine call_leaf hX (k2 2101248) rfl rfl (by simp [BAD]) ?_
    simp -implicitDefEqProofs -dsimp only [go_sem, reduceIte, Nat.reduceEqDiff, Nat.reduceAdd, Nat.reduceMul, Nat.reduceSub, Nat.reduceLT, Nat.reduceLeDiff, Nat.reduceBEq, Int.reduceLE, Int.reduceLT, Int.reduceEq, Int.reduceToNat, Int.reduceAdd, Int.reduceMul, Int.reduceSub, Int.reduceNeg, reduceCtorEq, if_true, if_false, hX, (by decide : ctx 2101248 2097152 4096 = (1, true)), PB_f1 hp, w5]
    exact ⟨rfl, rfl⟩
  · simp -implicitDefEqProofs -dsimp only [go_sem, reduceIte, Nat.reduceEqDiff, Nat.reduceAdd, Nat.reduceMul, Nat.reduceSub, Nat.reduceLT, Nat.reduceLeDiff, Nat.reduceBEq, Int.reduceLE, Int.reduceLT, Int.reduceEq, Int.reduceToNat, Int.reduceAdd, Int.reduceMul, Int.reduceSub, Int.reduceNeg, reduceCtorEq, if_true, if_false, hX]
    refine call_leaf hX (k1 2097156) rfl rfl (by simp [BAD]) ?_
    simp -implicitDefEqProofs -dsimp only [go_sem, reduceIte, Nat.reduceEqDiff, Nat.reduceAdd, Nat.reduceMul, Nat.reduceSub, Nat.reduceLT, Nat.reduceLeDiff, Nat.reduceBEq, Int.reduceLE, Int.reduceLT, Int.reduceEq, Int.reduceToNat, Int.reduceAdd, Int.reduceMul, Int.reduceSub, Int.reduceNeg, reduceCtorEq, if_true, if_false, hX, (by decide : ctx 2097156 8192 128 = (0, false))]
    refine call_leaf hX (k2 2097156) rfl rfl (by simp [BAD]) ?_
    simp -implicitDefEqProofs -dsimp only [go_sem, reduceIte, Nat.reduceEqDiff, Nat.reduceAdd, Nat.reduceMul, Nat.reduceSub, Nat.reduceLT, Nat.reduceLeDiff, Nat.reduceBEq, Int.reduceLE, Int.reduceLT, Int.reduceEq, Int.reduceToNat, Int.reduceAdd, Int.reduceMul, Int.reduceSub, Int.reduceNeg, reduceCtorEq, if_true, if_false, hX, (by decide : ctx 2097156 2097152 4096 = (0, false))]
    refine call_leaf hX (k3 2097156) rfl rfl (by simp [BAD]) ?_
    simp -implicitDefEqProofs -dsimp only [go_sem, reduceIte, Nat.reduceEqDiff, Nat.reduceAdd, Nat.reduceMul, Nat.reduceSub, Nat.reduceLT, Nat.reduceLeDiff, Nat.reduceBEq, Int.reduceLE, Int.reduceLT, Int.reduceEq, Int.reduceToNat, Int.reduceAdd, Int.reduceMul, Int.reduceSub, Int.reduceNeg, reduceCtorEq, if_true, if_false, hX, (by decide : ctx 2097156 2097156 4096 = (0, true))]
    refine call_of_spec (hX ▸ (claim_spec GL hG p hp 0)) [0] (by decide) (by simp) (by simp [BAD]) (by simp) (by simp only [push_cast, reduceIte, Nat.reduceEqDiff, Nat.reduceAdd, Nat.reduceMul, Nat.reduceSub, Nat.reduceLT, Nat.reduceLeDiff, Nat.reduceBEq, Int.reduceLE, Int.reduceLT, Int.reduceEq, Int.reduceToNat, Int.reduceAdd, Int.reduceMul, Int.reduceSub, Int.reduceNeg, reduceCtorEq, if_true, if_false]) (by simp only [push_cast, reduceIte, Nat.reduceEqDiff, Nat.reduceAdd, Nat.reduceMul, Nat.reduceSub, Nat.reduceLT, Nat.reduceLeDiff, Nat.reduceBEq, Int.reduceLE, Int.reduceLT, Int.reduceEq, Int.reduceToNat, Int.reduceAdd, Int.reduceMul, Int.reduceSub, Int.reduceNeg, reduceCtorEq, if_true, if_false]) ?_
    rintro v H ⟨rfl, rfl⟩ _
    simp only [push_cast, reduceIte, Nat.reduceEqDiff, Nat.reduceAdd, Nat.reduceMul, Nat.reduceSub, Nat.reduceLT, Nat.reduceLeDiff, Nat.reduceBEq, Int.reduceLE, Int.reduceLT, Int.reduceEq, Int.reduceToNat, Int.reduceAdd, Int.reduceMul, Int.reduceSub, Int.reduceNeg, reduceCtorEq, if_true, if_false]
    simp -implicitDefEqProofs -dsimp only [go_sem, reduceIte, Nat.reduceEqDiff, Nat.reduceAdd, Nat.reduceMul, Nat.reduceSub, Nat.reduceLT, Nat.reduceLeDiff, Nat.reduceBEq, Int.reduceLE, Int.reduceLT, Int.reduceEq, Int.reduceToNat, Int.reduceAdd, Int.reduceMul, Int.reduceSub, Int.reduceNeg, reduceCtorEq, if_true, if_false, hX]
    exact ⟨rfl, rfl⟩
  · simp -implicitDefEqProofs -dsimp only [go_sem, reduceIte, Nat.reduceEqDiff, Nat.reduceAdd, Nat.reduceMul, Nat.reduceSub, Nat.reduceLT, Nat.reduceLeDiff, Nat.reduceBEq, Int.reduceLE, Int.reduceLT, Int.reduceEq, Int.reduceToNat, Int.reduceAdd, Int.reduceMul, Int.reduceSub, Int.reduceNeg, reduceCtorEq, if_true, if_false, hX]
    refine call_leaf hX (k1 2101252) rfl rfl (by simp [BAD]) ?_
    simp -implicitDefEqProofs -dsimp only [go_sem, reduceIte, Nat.reduceEqDiff, Nat.reduceAdd, Nat.reduceMul, Nat.reduceSub, Nat.reduceLT, Nat.reduceLeDiff, Nat.reduceBEq, Int.reduceLE, Int.reduceLT, Int.reduceEq, Int.reduceToNat, Int.reduceAdd, Int.reduceMul, Int.reduceSub, Int.reduceNeg, reduceCtorEq, if_true, if_false, hX, (by decide : ctx 2101252 8192 128 = (0, false))]
    refine call_leaf hX (k2 2101252) rfl rfl (by simp [BAD]) ?_
    simp -implicitDefEqProofs -dsimp only [go_sem, reduceIte, Nat.reduceEqDiff, Nat.reduceAdd, Nat.reduceMul, Nat.reduceSub, Nat.reduceLT, Nat.reduceLeDiff, Nat.reduceBEq, Int.reduceLE, Int.reduceLT, Int.reduceEq, Int.reduceToNat, Int.reduceAdd, Int.reduceMul, Int.reduceSub, Int.reduceNeg, reduceCtorEq, if_true, if_false, hX, (by decide : ctx 2101252 2097152 4096 = (0, false))]
    refine call_leaf hX (k3 2101252) rfl rfl (by simp [BAD]) ?_
    simp -implicitDefEqProofs -dsimp only [go_sem, reduceIte, Nat.reduceEqDiff, Nat.reduceAdd, Nat.reduceMul, Nat.reduceSub, Nat.reduceLT, Nat.reduceLeDiff, Nat.reduceBEq, Int.reduceLE, Int.reduceLT, Int.reduceEq, Int.reduceToNat, Int.reduceAdd, Int.reduceMul, Int.reduceSub, Int.reduceNeg, reduceCtorEq, if_true, if_false, hX, (by decide : ctx 2101252 2097156 4096 = (1, true))]
    refine call_of_spec (hX ▸ (claim_spec GL hG p hp 1)) [0] (by decide) (by simp) (by simp [BAD]) (by simp) (by simp only [push_cast, reduceIte, Nat.reduceEqDiff, Nat.reduceAdd, Nat.reduceMul, Nat.reduceSub, Nat.reduceLT, Nat.reduceLeDiff, Nat.reduceBEq, Int.reduceLE, Int.reduceLT, Int.reduceEq, Int.reduceToNat, Int.reduceAdd, Int.reduceMul, Int.reduceSub, Int.reduceNeg, reduceCtorEq, if_true, if_false]) (by simp only [push_cast, reduceIte, Nat.reduceEqDiff, Nat.reduceAdd, Nat.reduceMul, Nat.reduceSub, Nat.reduceLT, Nat.reduceLeDiff, Nat.reduceBEq, Int.reduceLE, Int.reduceLT, Int.reduceEq, Int.reduceToNat, Int.reduceAdd, Int.reduceMul, Int.reduceSub, Int.reduceNeg, reduceCtorEq, if_true, if_false]) ?_
    rintro v H ⟨rfl, rfl⟩ _
    simp only [push_cast, reduceIte, Nat.reduceEqDiff, Nat.reduceAdd, Nat.reduceMul, Nat.reduceSub, Nat.reduceLT, Nat.reduceLeDiff, Nat.reduceBEq, Int.reduceLE, Int.reduceLT, Int.reduceEq, Int.reduceToNat, Int.reduceAdd, Int.reduceMul, Int.reduceSub, Int.reduceNeg, reduceCtorEq, if_true, if_false]
    simp -implicitDefEqProofs -dsimp only [go_sem, reduceIte, Nat.reduceEqDiff, Nat.reduceAdd, Nat.reduceMul, Nat.reduceSub, Nat.reduceLT, Nat.reduceLeDiff, Nat.reduceBEq, Int.reduceLE, Int.reduceLT, Int.reduceEq, Int.reduceToNat, Int.reduceAdd, Int.reduceMul, Int.reduceSub, Int.reduceNeg, reduceCtorEq, if_true, if_false, hX]
    exact ⟨rfl, rfl⟩
  · have d1 : decide ((off : Int) = 4096) = false := decide_eq_false (by omega)
    have x1 : ctx off 8192 128 = (0, false) := by simp [ctx, n2, n3]
    have x2 : ctx off 2097152 4096 = (0, false) := by simp [ctx, n4, n5]
    have x3 : ctx off 2097156 4096 = (0, false) := by simp [ctx, n6, n7]
    have q : ∀ {Y : Prop}, True := fun {_} => trivial
    by_cases h128 : off < 128
    · have d2 : decide ((off : Int) < 128) = true := decide_eq_true (by omega)
      have d3 : decide ((off : Int).tmod 4 = 0) = false := by
        refine decide_eq_false ?_
        rw [Int.tmod_eq_emod_of_nonneg (by omega)]
        intro h4
        exact h0 ⟨h128, by omega⟩
      simp -implicitDefEqProofs -dsimp only [go_sem, reduceIte, Nat.reduceEqDiff, Nat.reduceAdd, Nat.reduceMul, Nat.reduceSub, Nat.reduceLT, Nat.reduceLeDiff, Nat.reduceBEq, Int.reduceLE, Int.reduceLT, Int.reduceEq, Int.reduceToNat, Int.reduceAdd, Int.reduceMul, Int.reduceSub, Int.reduceNeg, reduceCtorEq, if_true, if_false, hX, d1, d2, d3]
      refine call_leaf hX (k1 off) rfl rfl (by simp [BAD]) ?_
      simp -implicitDefEqProofs -dsimp only [go_sem, reduceIte, Nat.reduceEqDiff, Nat.reduceAdd, Nat.reduceMul, Nat.reduceSub, Nat.reduceLT, Nat.reduceLeDiff, Nat.reduceBEq, Int.reduceLE, Int.reduceLT, Int.reduceEq, Int.reduceToNat, Int.reduceAdd, Int.reduceMul, Int.reduceSub, Int.reduceNeg, reduceCtorEq, if_true, if_false, hX, x1]
      refine call_leaf hX (k2 off) rfl rfl (by simp [BAD]) ?_
      simp -implicitDefEqProofs -dsimp only [go_sem, reduceIte, Nat.reduceEqDiff, Nat.reduceAdd, Nat.reduceMul, Nat.reduceSub, Nat.reduceLT, Nat.reduceLeDiff, Nat.reduceBEq, Int.reduceLE, Int.reduceLT, Int.reduceEq, Int.reduceToNat, Int.reduceAdd, Int.reduceMul, Int.reduceSub, Int.reduceNeg, reduceCtorEq, if_true, if_false, hX, x2]
      refine call_leaf hX (k3 off) rfl rfl (by simp [BAD]) ?_
      simp -implicitDefEqProofs -dsimp only [go_sem, reduceIte, Nat.reduceEqDiff, Nat.reduceAdd, Nat.reduceMul, Nat.reduceSub, Nat.reduceLT, Nat.reduceLeDiff, Nat.reduceBEq, Int.reduceLE, Int.reduceLT, Int.reduceEq, Int.reduceToNat, Int.reduceAdd, Int.reduceMul, Int.reduceSub, Int.reduceNeg, reduceCtorEq, if_true, if_false, hX, x3]
      exact ⟨rfl, rfl⟩
    · have d2 : decide ((off : Int) < 128) = false := decide_eq_false (by omega)
      simp -implicitDefEqProofs -dsimp only [go_sem, reduceIte, Nat.reduceEqDiff, Nat.reduceAdd, Nat.reduceMul, Nat.reduceSub, Nat.reduceLT, Nat.reduceLeDiff, Nat.reduceBEq, Int.reduceLE, Int.reduceLT, Int.reduceEq, Int.reduceToNat, Int.reduceAdd, Int.reduceMul, Int.reduceSub, Int.reduceNeg, reduceCtorEq, if_true, if_false, hX, d1, d2]
      refine call_leaf hX (k1 off) rfl rfl (by simp [BAD]) ?_
      simp -implicitDefEqProofs -dsimp only [go_sem, reduceIte, Nat.reduceEqDiff, Nat.reduceAdd, Nat.reduceMul, Nat.reduceSub, Nat.reduceLT, Nat.reduceLeDiff, Nat.reduceBEq, Int.reduceLE, Int.reduceLT, Int.reduceEq, Int.reduceToNat, Int.reduceAdd, Int.reduceMul, Int.reduceSub, Int.reduceNeg, reduceCtorEq, if_true, if_false, hX, x1]
      refine call_leaf hX (k2 off) rfl rfl (by simp [BAD]) ?_
      simp -implicitDefEqProofs -dsimp only [go_sem, reduceIte, Nat.reduceEqDiff, Nat.reduceAdd, Nat.reduceMul, Nat.reduceSub, Nat.reduceLT, Nat.reduceLeDiff, Nat.reduceBEq, Int.reduceLE, Int.reduceLT, Int.reduceEq, Int.reduceToNat, Int.reduceAdd, Int.reduceMul, Int.reduceSub, Int.reduceNeg, reduceCtorEq, if_true, if_false, hX, x2]
      refine call_leaf hX (k3 off) rfl rfl (by simp [BAD]) ?_
      simp -implicitDefEqProofs -dsimp only [go_sem, reduceIte, Nat.reduceEqDiff, Nat.reduceAdd, Nat.reduceMul, Nat.reduceSub, Nat.reduceLT, Nat.reduceLeDiff, Nat.reduceBEq, Int.reduceLE, Int.reduceLT, Int.reduceEq, Int.reduceToNat, Int.reduceAdd, Int.reduceMul, Int.reduceSub, Int.reduceNeg, reduceCtorEq, if_true, if_false, hX, x3]
      exact ⟨rfl, rfl⟩
theorem complete_spec (GL : List (Nat × List Value)) (p : PS) (hp : p.ok) (c : Int) (hc : c = 0 ∨ c = 1) (v : Nat) (hv : v < 2 ^ 32) : SX.Spec Tryd.prog GL 42 1 [.pointer (some ⟨0, 0, none⟩), .int .i64 c, .int .u32 v] [PB p] (fun r H => r = .tuple ⟨[]⟩ ∧ H = [PB (p.complete c v)]) := by
  refine spec_of_ev (fn := Tryd.f42) (by kernel_rfl) plic_Plic_complete.ok plic_Plic_complete.rok (Nat.le_of_ble_eq_true rfl) fun X hX hXn => ?_
  unfold plic_Plic_complete.ic plic_Plic_complete.rv
  by_cases h31 : 31 < v
  · have d : decide ((31 : Int) < (v : Int)) = true := decide_eq_true (by omega)
    simp -implicitDefEqProofs -dsimp only [go_sem, reduceIte, Nat.reduceEqDiff, Nat.reduceAdd, Nat.reduceMul, Nat.reduceSub, Nat.reduceLT, Nat.reduceLeDiff, Nat.reduceBEq, Int.reduceLE, Int.reduceLT, Int.reduceEq, Int.reduceToNat, Int.reduceAdd, Int.reduceMul, Int.reduceSub, Int.reduceNeg, reduceCtorEq, if_true, if_false, hX]
    refine mix_intro [0] ?_
    simp -implicitDefEqProofs -dsimp only [go_sem, reduceIte, Nat.reduceEqDiff, Nat.reduceAdd, Nat.reduceMul, Nat.reduceSub, Nat.reduceLT, Nat.reduceLeDiff, Nat.reduceBEq, Int.reduceLE, Int.reduceLT, Int.reduceEq, Int.reduceToNat, Int.reduceAdd, Int.reduceMul, Int.reduceSub, Int.reduceNeg, reduceCtorEq, if_true, if_false, hX, d]
    rw [PS.complete, if_neg (by omega)]
  · have d : decide ((31 : Int) < (v : Int)) = false := decide_eq_false (by omega)
    have d3 : (0 ≤ c) = True := by simp; omega
    have d4 : (c < 2) = True := by simp; omega
    have hon : p.on c < 2 ^ 32 := by unfold PS.on; split; exact hp.on0; exact hp.on1
    have e1 : rd (some (PB p)) (35 + c.toNat) = some (.int .u32 (p.on c)) := by
      rcases hc with rfl | rfl
      · exact PB_on0 hp
      · exact PB_on1 hp
    have e2 : iand .u32 (p.on c : Int) (p.busy : Int) = ((p.on c &&& p.busy : Nat) : Int) := iand_nat rfl hon hp.busy
    have e3 : IntKind.i64.wrap (v : Int) = v := wrap_i64 (by omega) (by omega)
    have e4 : ishl .u32 1 (v : Int) = ((2 ^ v : Nat) : Int) := ishl_one rfl (by show v < 32; omega)
    have e5 : iandNot .u32 (p.busy : Int) ((2 ^ v : Nat) : Int) = ((ndiff p.busy (2 ^ v) : Nat) : Int) := iandNot_nat rfl hp.busy (pow32 (by omega))
    have hp1 : PS.ok { p with busy := ndiff p.busy (2 ^ v) } := { hp with busy := ndiff_le _ _ hp.busy }
    simp -implicitDefEqProofs -dsimp only [go_sem, reduceIte, Nat.reduceEqDiff, Nat.reduceAdd, Nat.reduceMul, Nat.reduceSub, Nat.reduceLT, Nat.reduceLeDiff, Nat.reduceBEq, Int.reduceLE, Int.reduceLT, Int.reduceEq, Int.reduceToNat, Int.reduceAdd, Int.reduceMul, Int.reduceSub, Int.reduceNeg, reduceCtorEq, if_true, if_false, hX]
    refine mix_intro [0] ?_
    simp -implicitDefEqProofs -dsimp only [go_sem, reduceIte, Nat.reduceEqDiff, Nat.reduceAdd, Nat.reduceMul, Nat.reduceSub, Nat.reduceLT, Nat.reduceLeDiff, Nat.reduceBEq, Int.reduceLE, Int.reduceLT, Int.reduceEq, Int.reduceToNat, Int.reduceAdd, Int.reduceMul, Int.reduceSub, Int.reduceNeg, reduceCtorEq, if_true, if_false, hX, d, d3, d4, e1, e2, e3]
    refine call_leaf hX (bit32n_spec GL (p.on c &&& p.busy) v (Nat.lt_of_le_of_lt Nat.and_le_left hon) (by omega)) rfl rfl (by simp [BAD]) ?_
    cases hb : (p.on c &&& p.busy).testBit v with
    | false =>
      simp -implicitDefEqProofs -dsimp only [go_sem, reduceIte, Nat.reduceEqDiff, Nat.reduceAdd, Nat.reduceMul, Nat.reduceSub, Nat.reduceLT, Nat.reduceLeDiff, Nat.reduceBEq, Int.reduceLE, Int.reduceLT, Int.reduceEq, Int.reduceToNat, Int.reduceAdd, Int.reduceMul, Int.reduceSub, Int.reduceNeg, reduceCtorEq, if_true, if_false, hX]
      rw [PS.complete, if_neg (by rw [hb]; simp)]
    | true =>
      simp -implicitDefEqProofs -dsimp only [go_sem, reduceIte, Nat.reduceEqDiff, Nat.reduceAdd, Nat.reduceMul, Nat.reduceSub, Nat.reduceLT, Nat.reduceLeDiff, Nat.reduceBEq, Int.reduceLE, Int.reduceLT, Int.reduceEq, Int.reduceToNat, Int.reduceAdd, Int.reduceMul, Int.reduceSub, Int.reduceNeg, reduceCtorEq, if_true, if_false, hX, e4, e5, PB_wbusy hp, e3]
      refine call_of_spec (hX ▸ (look_spec GL _ hp1 v (by omega))) [0] (by decide) (by simp) (by simp [BAD]) (by simp) (by simp only [push_cast, reduceIte, Nat.reduceEqDiff, Nat.reduceAdd, Nat.reduceMul, Nat.reduceSub, Nat.reduceLT, Nat.reduceLeDiff, Nat.reduceBEq, Int.reduceLE, Int.reduceLT, Int.reduceEq, Int.reduceToNat, Int.reduceAdd, Int.reduceMul, Int.reduceSub, Int.reduceNeg, reduceCtorEq, if_true, if_false]) (by simp only [push_cast, reduceIte, Nat.reduceEqDiff, Nat.reduceAdd, Nat.reduceMul, Nat.reduceSub, Nat.reduceLT, Nat.reduceLeDiff, Nat.reduceBEq, Int.reduceLE, Int.reduceLT, Int.reduceEq, Int.reduceToNat, Int.reduceAdd, Int.reduceMul, Int.reduceSub, Int.reduceNeg, reduceCtorEq, if_true, if_false]) ?_
      rintro r H ⟨rfl, rfl⟩ _
      simp only [push_cast, reduceIte, Nat.reduceEqDiff, Nat.reduceAdd, Nat.reduceMul, Nat.reduceSub, Nat.reduceLT, Nat.reduceLeDiff, Nat.reduceBEq, Int.reduceLE, Int.reduceLT, Int.reduceEq, Int.reduceToNat, Int.reduceAdd, Int.reduceMul, Int.reduceSub, Int.reduceNeg, reduceCtorEq, if_true, if_false]
      simp -implicitDefEqProofs -dsimp only [go_sem, reduceIte, Nat.reduceEqDiff, Nat.reduceAdd, Nat.reduceMul, Nat.reduceSub, Nat.reduceLT, Nat.reduceLeDiff, Nat.reduceBEq, Int.reduceLE, Int.reduceLT, Int.reduceEq, Int.reduceToNat, Int.reduceAdd, Int.reduceMul, Int.reduceSub, Int.reduceNeg, reduceCtorEq, if_true, if_false, hX]
      rw [PS.complete, if_pos ⟨by omega, hb⟩]
theorem write_plic_spec (GL : List (Nat × List Value)) (p : PS) (hp : p.ok) (off : Nat) (n : Int) (v : Nat) (ho : off < 2 ^ 64) (hv : v < 2 ^ 64) :
    SX.Spec Tryd.prog GL 30 1 [.pointer (some ⟨0, 0, none⟩), .int .u64 off, .int .i64 n, .int .u64 v] [PB p] (fun r H =>
      r = .bool (decide (n = 4) && (plDec off).is) ∧ H = [PB (if n = 4 then p.ws v (plDec off) else p)]) := by
  refine spec_of_ev (fn := Tryd.f30) (by kernel_rfl) plic_Plic_Write.ok plic_Plic_Write.rok (Nat.le_of_ble_eq_true rfl) fun X hX hXn => ?_
  unfold plic_Plic_Write.ic plic_Plic_Write.rv
  by_cases hn : ¬ n = 4
  · have d : decide (n = 4) = false := decide_eq_false hn
    simp -implicitDefEqProofs -dsimp only [go_sem, reduceIte, Nat.reduceEqDiff, Nat.reduceAdd, Nat.reduceMul, Nat.reduceSub, Nat.reduceLT, Nat.reduceLeDiff, Nat.reduceBEq, Int.reduceLE, Int.reduceLT, Int.reduceEq, Int.reduceToNat, Int.reduceAdd, Int.reduceMul, Int.reduceSub, Int.reduceNeg, reduceCtorEq, if_true, if_false, hX, d]
    simp [hn]
  replace hn : n = 4 := by omega
  subst hn
  simp only [decide_true, Bool.true_and, if_true]
  have a7 : iand .u64 (v : Int) 7 = ((v % 8 : Nat) : Int) := by
    have := iand_nat (k := .u64) rfl hv (b := 7) (by decide)
    rw [show v &&& 7 = v % 8 from Nat.and_two_pow_sub_one_eq_mod v 3] at this
    exact this
  have a8 : IntKind.u8.wrap ((v % 8 : Nat) : Int) = ((v % 8 : Nat) : Int) := wrap_nat rfl (by show _ < 2 ^ 8; omega)
  have a32 : IntKind.u32.wrap (v : Int) = ((v % 2 ^ 32 : Nat) : Int) := by rw [wrap_u32_mod]; rfl
  have hm := Nat.mod_lt v (show 0 < 2 ^ 32 by decide)
  have a1 : iandNot .u32 ((v % 2 ^ 32 : Nat) : Int) 1 = ((ndiff (v % 2 ^ 32) 1 : Nat) : Int) := iandNot_nat (b := 1) rfl hm (by decide)
  rcases plDec_cases off with ⟨h1, h2, e⟩ | ⟨h0, h⟩
  · rw [e]
    have d1 : decide ((off : Int) < 128) = true := decide_eq_true (by omega)
    have e1 : (off : Int).tmod 4 = ((off % 4 : Nat) : Int) := by rw [Int.tmod_eq_emod_of_nonneg (by omega)]; rfl
    have d2 : decide (((off % 4 : Nat) : Int) = 0) = true := decide_eq_true (by omega)
    have e2 : IntKind.u64.wrap ((off : Int).tdiv 4) = ((off / 4 : Nat) : Int) := by rw [Int.tdiv_eq_ediv_of_nonneg (by omega), (show (off : Int) / 4 = ((off / 4 : Nat) : Int) by omega)]; exact wrap_nat rfl (by show _ < 2 ^ 64; omega)
    have hi : off / 4 < 32 := by omega
    have d3 : (((off / 4 : Nat) : Int) < 32) = True := by simp only [eq_iff_iff, iff_true]; omega
    by_cases h3 : off = 0
    · have d4 : decide ((0 : Int) < (off : Int)) = false := decide_eq_false (by omega)
      simp -implicitDefEqProofs -dsimp only [go_sem, reduceIte, Nat.reduceEqDiff, Nat.reduceAdd, Nat.reduceMul, Nat.reduceSub, Nat.reduceLT, Nat.reduceLeDiff, Nat.reduceBEq, Int.reduceLE, Int.reduceLT, Int.reduceEq, Int.reduceToNat, Int.reduceAdd, Int.reduceMul, Int.reduceSub, Int.reduceNeg, reduceCtorEq, if_true, if_false, hX, d1, e1, d2, d4]
      exact ⟨rfl, by rw [PS.ws, if_pos (by omega)]⟩
    · have d4 : decide ((0 : Int) < (off : Int)) = true := decide_eq_true (by omega)
      simp -implicitDefEqProofs -dsimp only [go_sem, reduceIte, Nat.reduceEqDiff, Nat.reduceAdd, Nat.reduceMul, Nat.reduceSub, Nat.reduceLT, Nat.reduceLeDiff, Nat.reduceBEq, Int.reduceLE, Int.reduceLT, Int.reduceEq, Int.reduceToNat, Int.reduceAdd, Int.reduceMul, Int.reduceSub, Int.reduceNeg, reduceCtorEq, if_true, if_false, hX, d1, e1, d2, d4, e2, d3, a7, a8, PB_wprio hp hi]
      exact ⟨rfl, by rw [PS.ws, if_neg (by omega)]⟩
  have k1 := fun off => context_spec GL off 8192 128 (by decide)
  have k2 := fun off => context_spec GL off 2097152 4096 (by decide)
  have k3 := fun off => context_spec GL off 2097156 4096 (by decide)
  rcases h with ⟨rfl, e⟩ | ⟨rfl, e⟩ | ⟨rfl, e⟩ | ⟨rfl, e⟩ | ⟨rfl, e⟩ | ⟨rfl, e⟩ | ⟨rfl, e⟩ | ⟨n1, n2, n3, n4, n5, n6, n7, e⟩
  all_goals rw [e]
  · simp -implicitDefEqProofs -dsimp only [go_sem, reduceIte, Nat.reduceEqDiff, Nat.reduceAdd, Nat.reduceMul, Nat.reduceSub, Nat.reduceLT, Nat.reduceLeDiff, Nat.reduceBEq, Int.reduceLE, Int.reduceLT, Int.reduceEq, Int.reduceToNat, Int.reduceAdd, Int.reduceMul, Int.reduceSub, Int.reduceNeg, reduceCtorEq, if_true, if_false, hX]
    exact ⟨rfl, rfl⟩
  · simp -implicitDefEqProofs -dsimp only [go_sem, reduceIte, Nat.reduceEqDiff, Nat.reduceAdd, Nat.reduceMul, Nat.reduceSub, Nat.reduceLT, Nat.reduceLeDiff, Nat.reduceBEq, Int.reduceLE, Int.reduceLT, Int.reduceEq, Int.reduceToNat, Int.reduceAdd, Int.reduceMul, Int.reduceSub, Int.reduceNeg, reduceCtorEq, if_true, if_false, hX]
    refine call_leaf hX (k1 8192) rfl rfl (by simp [BAD]) ?_
    simp -implicitDefEqProofs -dsimp only [go_sem, reduceIte, Nat.reduceEqDiff, Nat.reduceAdd, Nat.reduceMul, Nat.reduceSub, Nat.reduceLT, Nat.reduceLeDiff, Nat.reduceBEq, Int.reduceLE, Int.reduceLT, Int.reduceEq, Int.reduceToNat, Int.reduceAdd, Int.reduceMul, Int.reduceSub, Int.reduceNeg, reduceCtorEq, if_true, if_false, hX, (by decide : ctx 8192 8192 128 = (0, true)), a32, a1, PB_won0 hp]
    exact ⟨rfl, rfl⟩
  · simp -implicitDefEqProofs -dsimp only [go_sem, reduceIte, Nat.reduceEqDiff, Nat.reduceAdd, Nat.reduceMul, Nat.reduceSub, Nat.reduceLT, Nat.reduceLeDiff, Nat.reduceBEq, Int.reduceLE, Int.reduceLT, Int.reduceEq, Int.reduceToNat, Int.reduceAdd, Int.reduceMul, Int.reduceSub, Int.reduceNeg, reduceCtorEq, if_true, if_false, hX]
    refine call_leaf hX (k1 8320) rfl rfl (by simp [BAD]) ?_
    simp -implicitDefEqProofs -dsimp only [go_sem, reduceIte, Nat.reduceEqDiff, Nat.reduceAdd, Nat.reduceMul, Nat.reduceSub, Nat.reduceLT, Nat.reduceLeDiff, Nat.reduceBEq, Int.reduceLE, Int.reduceLT, Int.reduceEq, Int.reduceToNat, Int.reduceAdd, Int.reduceMul, Int.reduceSub, Int.reduceNeg, reduceCtorEq, if_true, if_false, hX, (by decide : ctx 8320 8192 128 = (1, true)), a32, a1, PB_won1 hp]
    exact ⟨rfl, rfl⟩
  · simp -implicitDefEqProofs -dsimp only [go_sem, reduceIte, Nat.reduceEqDiff, Nat.reduceAdd, Nat.reduceMul, Nat.reduceSub, Nat.reduceLT, Nat.reduceLeDiff, Nat.reduceBEq, Int.reduceLE, Int.reduceLT, Int.reduceEq, Int.reduceToNat, Int.reduceAdd, Int.reduceMul, Int.reduceSub, Int.reduceNeg, reduceCtorEq, if_true, if_false, hX]
    refine call_leaf hX (k1 2097152) rfl rfl (by simp [BAD]) ?_
    simp -implicitDefEqProofs -dsimp only [go_sem, reduceIte, Nat.reduceEqDiff, Nat.reduceAdd, Nat.reduceMul, Nat.reduceSub, Nat.reduceLT, Nat.reduceLeDiff, Nat.reduceBEq, Int.reduceLE, Int.reduceLT, Int.reduceEq, Int.reduceToNat, Int.reduceAdd, Int.reduceMul, Int.reduceSub, Int.reduceNeg, reduceCtorEq, if_true, if_false, hX, (by decide : ctx 2097152 8192 128 = (0, false))]
    refine call_leaf hX (k2 2097152) rfl rfl (by simp [BAD]) ?_
    simp -implicitDefEqProofs -dsimp only [go_sem, reduceIte, Nat.reduceEqDiff, Nat.reduceAdd, Nat.reduceMul, Nat.reduceSub, Nat.reduceLT, Nat.reduceLeDiff, Nat.reduceBEq, Int.reduceLE, Int.reduceLT, Int.reduceEq, Int.reduceToNat, Int.reduceAdd, Int.reduceMul, Int.reduceSub, Int.reduceNeg, reduceCtorEq, if_true, if_false, hX, (by decide : ctx 2097152 2097152 4096 = (0, true)), a7, a8, PB_wf0 hp]
    exact ⟨rfl, rfl⟩
  · simp -implicitDefEqProofs -dsimp only [go_sem, reduceIte, Nat.reduceEqDiff, Nat.reduceAdd, Nat.reduceMul, Nat.reduceSub, Nat.reduceLT, Nat.reduceLeDiff, Nat.reduceBEq, Int.reduceLE, Int.reduceLT, Int.reduceEq, Int.reduceToNat, Int.reduceAdd, Int.reduceMul, Int.reduceSub, Int.reduceNeg, reduceCtorEq, if_true, if_false, hX]
    refine call_leaf hX (k1 2101248) rfl rfl (by simp [BAD]) ?_
    simp -implicitDefEqProofs -dsimp only [go_sem, reduceIte, Nat.reduceEqDiff, Nat.reduceAdd, Nat.reduceMul, Nat.reduceSub, Nat.reduceLT, Nat.reduceLeDiff, Nat.reduceBEq, Int.reduceLE, Int.reduceLT, Int.reduceEq, Int.reduceToNat, Int.reduceAdd, Int.reduceMul, Int.reduceSub, Int.reduceNeg, reduceCtorEq, if_true, if_false, hX, (by decide : ctx 2101248 8192 128 = (0, false))]
    refine call_leaf hX (k2 2101248) rfl rfl (by simp [BAD]) ?_
    simp -implicitDefEqProofs -dsimp only [go_sem, reduceIte, Nat.reduceEqDiff, Nat.reduceAdd, Nat.reduceMul, Nat.reduceSub, Nat.reduceLT, Nat.reduceLeDiff, Nat.reduceBEq, Int.reduceLE, Int.reduceLT, Int.reduceEq, Int.reduceToNat, Int.reduceAdd, Int.reduceMul, Int.reduceSub, Int.reduceNeg, reduceCtorEq, if_true, if_false, hX, (by decide : ctx 2101248 2097152 4096 = (1, true)), a7, a8, PB_wf1 hp]
    exact ⟨rfl, rfl⟩
  · simp -implicitDefEqProofs -dsimp only [go_sem, reduceIte, Nat.reduceEqDiff, Nat.reduceAdd, Nat.reduceMul, Nat.reduceSub, Nat.reduceLT, Nat.reduceLeDiff, Nat.reduceBEq, Int.reduceLE, Int.reduceLT, Int.reduceEq, Int.reduceToNat, Int.reduceAdd, Int.reduceMul, Int.reduceSub, Int.reduceNeg, reduceCtorEq, if_true, if_false, hX]
    refine call_leaf hX (k1 2097156) rfl rfl (by simp [BAD]) ?_
    simp -implicitDefEqProofs -dsimp only [go_sem, reduceIte, Nat.reduceEqDiff, Nat.reduceAdd, Nat.reduceMul, Nat.reduceSub, Nat.reduceLT, Nat.reduceLeDiff, Nat.reduceBEq, Int.reduceLE, Int.reduceLT, Int.reduceEq, Int.reduceToNat, Int.reduceAdd, Int.reduceMul, Int.reduceSub, Int.reduceNeg, reduceCtorEq, if_true, if_false, hX, (by decide : ctx 2097156 8192 128 = (0, false))]
    refine call_leaf hX (k2 2097156) rfl rfl (by simp [BAD]) ?_
    simp -implicitDefEqProofs -dsimp only [go_sem, reduceIte, Nat.reduceEqDiff, Nat.reduceAdd, Nat.reduceMul, Nat.reduceSub, Nat.reduceLT, Nat.reduceLeDiff, Nat.reduceBEq, Int.reduceLE, Int.reduceLT, Int.reduceEq, Int.reduceToNat, Int.reduceAdd, Int.reduceMul, Int.reduceSub, Int.reduceNeg, reduceCtorEq, if_true, if_false, hX, (by decide : ctx 2097156 2097152 4096 = (0, false))]
    refine call_leaf hX (k3 2097156) rfl rfl (by simp [BAD]) ?_
    simp -implicitDefEqProofs -dsimp only [go_sem, reduceIte, Nat.reduceEqDiff, Nat.reduceAdd, Nat.reduceMul, Nat.reduceSub, Nat.reduceLT, Nat.reduceLeDiff, Nat.reduceBEq, Int.reduceLE, Int.reduceLT, Int.reduceEq, Int.reduceToNat, Int.reduceAdd, Int.reduceMul, Int.reduceSub, Int.reduceNeg, reduceCtorEq, if_true, if_false, hX, (by decide : ctx 2097156 2097156 4096 = (0, true)), a32]
    simp only [PS.ws]
    generalize v % 2 ^ 32 = m at *
    refine call_of_spec (hX ▸ (complete_spec GL p hp 0 (.inl rfl) _ hm)) [0] (by decide) (by simp) (by simp [BAD]) (by simp) (by simp only [push_cast, reduceIte, Nat.reduceEqDiff, Nat.reduceAdd, Nat.reduceMul, Nat.reduceSub, Nat.reduceLT, Nat.reduceLeDiff, Nat.reduceBEq, Int.reduceLE, Int.reduceLT, Int.reduceEq, Int.reduceToNat, Int.reduceAdd, Int.reduceMul, Int.reduceSub, Int.reduceNeg, reduceCtorEq, if_true, if_false]) (by simp only [push_cast, reduceIte, Nat.reduceEqDiff, Nat.reduceAdd, Nat.reduceMul, Nat.reduceSub, Nat.reduceLT, Nat.reduceLeDiff, Nat.reduceBEq, Int.reduceLE, Int.reduceLT, Int.reduceEq, Int.reduceToNat, Int.reduceAdd, Int.reduceMul, Int.reduceSub, Int.reduceNeg, reduceCtorEq, if_true, if_false]) ?_
    rintro v H ⟨rfl, rfl⟩ _
    simp only [push_cast, reduceIte, Nat.reduceEqDiff, Nat.reduceAdd, Nat.reduceMul, Nat.reduceSub, Nat.reduceLT, Nat.reduceLeDiff, Nat.reduceBEq, Int.reduceLE, Int.reduceLT, Int.reduceEq, Int.reduceToNat, Int.reduceAdd, Int.reduceMul, Int.reduceSub, Int.reduceNeg, reduceCtorEq, if_true, if_false]
    simp -implicitDefEqProofs -dsimp only [go_sem, reduceIte, Nat.reduceEqDiff, Nat.reduceAdd, Nat.reduceMul, Nat.reduceSub, Nat.reduceLT, Nat.reduceLeDiff, Nat.reduceBEq, Int.reduceLE, Int.reduceLT, Int.reduceEq, Int.reduceToNat, Int.reduceAdd, Int.reduceMul, Int.reduceSub, Int.reduceNeg, reduceCtorEq, if_true, if_false, hX]
    rfl
  · simp -implicitDefEqProofs -dsimp only [go_sem, reduceIte, Nat.reduceEqDiff, Nat.reduceAdd, Nat.reduceMul, Nat.reduceSub, Nat.reduceLT, Nat.reduceLeDiff, Nat.reduceBEq, Int.reduceLE, Int.reduceLT, Int.reduceEq, Int.reduceToNat, Int.reduceAdd, Int.reduceMul, Int.reduceSub, Int.reduceNeg, reduceCtorEq, if_true, if_false, hX]
    refine call_leaf hX (k1 2101252) rfl rfl (by simp [BAD]) ?_
    simp -implicitDefEqProofs -dsimp only [go_sem, reduceIte, Nat.reduceEqDiff, Nat.reduceAdd, Nat.reduceMul, Nat.reduceSub, Nat.reduceLT, Nat.reduceLeDiff, Nat.reduceBEq, Int.reduceLE, Int.reduceLT, Int.reduceEq, Int.reduceToNat, Int.reduceAdd, Int.reduceMul, Int.reduceSub, Int.reduceNeg, reduceCtorEq, if_true, if_false, hX, (by decide : ctx 2101252 8192 128 = (0, false))]
    refine call_leaf hX (k2 2101252) rfl rfl (by simp [BAD]) ?_
    simp -implicitDefEqProofs -dsimp only [go_sem, reduceIte, Nat.reduceEqDiff, Nat.reduceAdd, Nat.reduceMul, Nat.reduceSub, Nat.reduceLT, Nat.reduceLeDiff, Nat.reduceBEq, Int.reduceLE, Int.reduceLT, Int.reduceEq, Int.reduceToNat, Int.reduceAdd, Int.reduceMul, Int.reduceSub, Int.reduceNeg, reduceCtorEq, if_true, if_false, hX, (by decide : ctx 2101252 2097152 4096 = (0, false))]
    refine call_leaf hX (k3 2101252) rfl rfl (by simp [BAD]) ?_
    simp -implicitDefEqProofs -dsimp only [go_sem, reduceIte, Nat.reduceEqDiff, Nat.reduceAdd, Nat.reduceMul, Nat.reduceSub, Nat.reduceLT, Nat.reduceLeDiff, Nat.reduceBEq, Int.reduceLE, Int.reduceLT, Int.reduceEq, Int.reduceToNat, Int.reduceAdd, Int.reduceMul, Int.reduceSub, Int.reduceNeg, reduceCtorEq, if_true, if_false, hX, (by decide : ctx 2101252 2097156 4096 = (1, true)), a32]
    simp only [PS.ws]
    generalize v % 2 ^ 32 = m at *
    refine call_of_spec (hX ▸ (complete_spec GL p hp 1 (.inr rfl) _ hm)) [0] (by decide) (by simp) (by simp [BAD]) (by simp) (by simp only [push_cast, reduceIte, Nat.reduceEqDiff, Nat.reduceAdd, Nat.reduceMul, Nat.reduceSub, Nat.reduceLT, Nat.reduceLeDiff, Nat.reduceBEq, Int.reduceLE, Int.reduceLT, Int.reduceEq, Int.reduceToNat, Int.reduceAdd, Int.reduceMul, Int.reduceSub, Int.reduceNeg, reduceCtorEq, if_true, if_false]) (by simp only [push_cast, reduceIte, Nat.reduceEqDiff, Nat.reduceAdd, Nat.reduceMul, Nat.reduceSub, Nat.reduceLT, Nat.reduceLeDiff, Nat.reduceBEq, Int.reduceLE, Int.reduceLT, Int.reduceEq, Int.reduceToNat, Int.reduceAdd, Int.reduceMul, Int.reduceSub, Int.reduceNeg, reduceCtorEq, if_true, if_false]) ?_
    rintro v H ⟨rfl, rfl⟩ _
    simp only [push_cast, reduceIte, Nat.reduceEqDiff, Nat.reduceAdd, Nat.reduceMul, Nat.reduceSub, Nat.reduceLT, Nat.reduceLeDiff, Nat.reduceBEq, Int.reduceLE, Int.reduceLT, Int.reduceEq, Int.reduceToNat, Int.reduceAdd, Int.reduceMul, Int.reduceSub, Int.reduceNeg, reduceCtorEq, if_true, if_false]
    simp -implicitDefEqProofs -dsimp only [go_sem, reduceIte, Nat.reduceEqDiff, Nat.reduceAdd, Nat.reduceMul, Nat.reduceSub, Nat.reduceLT, Nat.reduceLeDiff, Nat.reduceBEq, Int.reduceLE, Int.reduceLT, Int.reduceEq, Int.reduceToNat, Int.reduceAdd, Int.reduceMul, Int.reduceSub, Int.reduceNeg, reduceCtorEq, if_true, if_false, hX]
    rfl
  · have d1 : decide ((off : Int) = 4096) = false := decide_eq_false (by omega)
    have x1 : ctx off 8192 128 = (0, false) := by simp [ctx, n2, n3]
    have x2 : ctx off 2097152 4096 = (0, false) := by simp [ctx, n4, n5]
    have x3 : ctx off 2097156 4096 = (0, false) := by simp [ctx, n6, n7]
    by_cases h128 : off < 128
    · have d2 : decide ((off : Int) < 128) = true := decide_eq_true (by omega)
      have d3 : decide ((off : Int).tmod 4 = 0) = false := by
        refine decide_eq_false ?_
        rw [Int.tmod_eq_emod_of_nonneg (by omega)]
        intro h4
        exact h0 ⟨h128, by omega⟩
      simp -implicitDefEqProofs -dsimp only [go_sem, reduceIte, Nat.reduceEqDiff, Nat.reduceAdd, Nat.reduceMul, Nat.reduceSub, Nat.reduceLT, Nat.reduceLeDiff, Nat.reduceBEq, Int.reduceLE, Int.reduceLT, Int.reduceEq, Int.reduceToNat, Int.reduceAdd, Int.reduceMul, Int.reduceSub, Int.reduceNeg, reduceCtorEq, if_true, if_false, hX, d1, d2, d3]
      refine call_leaf hX (k1 off) rfl rfl (by simp [BAD]) ?_
      simp -implicitDefEqProofs -dsimp only [go_sem, reduceIte, Nat.reduceEqDiff, Nat.reduceAdd, Nat.reduceMul, Nat.reduceSub, Nat.reduceLT, Nat.reduceLeDiff, Nat.reduceBEq, Int.reduceLE, Int.reduceLT, Int.reduceEq, Int.reduceToNat, Int.reduceAdd, Int.reduceMul, Int.reduceSub, Int.reduceNeg, reduceCtorEq, if_true, if_false, hX, x1]
      refine call_leaf hX (k2 off) rfl rfl (by simp [BAD]) ?_
      simp -implicitDefEqProofs -dsimp only [go_sem, reduceIte, Nat.reduceEqDiff, Nat.reduceAdd, Nat.reduceMul, Nat.reduceSub, Nat.reduceLT, Nat.reduceLeDiff, Nat.reduceBEq, Int.reduceLE, Int.reduceLT, Int.reduceEq, Int.reduceToNat, Int.reduceAdd, Int.reduceMul, Int.reduceSub, Int.reduceNeg, reduceCtorEq, if_true, if_false, hX, x2]
      refine call_leaf hX (k3 off) rfl rfl (by simp [BAD]) ?_
      simp -implicitDefEqProofs -dsimp only [go_sem, reduceIte, Nat.reduceEqDiff, Nat.reduceAdd, Nat.reduceMul, Nat.reduceSub, Nat.reduceLT, Nat.reduceLeDiff, Nat.reduceBEq, Int.reduceLE, Int.reduceLT, Int.reduceEq, Int.reduceToNat, Int.reduceAdd, Int.reduceMul, Int.reduceSub, Int.reduceNeg, reduceCtorEq, if_true, if_false, hX, x3]
      exact ⟨rfl, rfl⟩
    · have d2 : decide ((off : Int) < 128) = false := decide_eq_false (by omega)
      simp -implicitDefEqProofs -dsimp only [go_sem, reduceIte, Nat.reduceEqDiff, Nat.reduceAdd, Nat.reduceMul, Nat.reduceSub, Nat.reduceLT, Nat.reduceLeDiff, Nat.reduceBEq, Int.reduceLE, Int.reduceLT, Int.reduceEq, Int.reduceToNat, Int.reduceAdd, Int.reduceMul, Int.reduceSub, Int.reduceNeg, reduceCtorEq, if_true, if_false, hX, d1, d2]
      refine call_leaf hX (k1 off) rfl rfl (by simp [BAD]) ?_
      simp -implicitDefEqProofs -dsimp only [go_sem, reduceIte, Nat.reduceEqDiff, Nat.reduceAdd, Nat.reduceMul, Nat.reduceSub, Nat.reduceLT, Nat.reduceLeDiff, Nat.reduceBEq, Int.reduceLE, Int.reduceLT, Int.reduceEq, Int.reduceToNat, Int.reduceAdd, Int.reduceMul, Int.reduceSub, Int.reduceNeg, reduceCtorEq, if_true, if_false, hX, x1]
      refine call_leaf hX (k2 off) rfl rfl (by simp [BAD]) ?_
      simp -implicitDefEqProofs -dsimp only [go_sem, reduceIte, Nat.reduceEqDiff, Nat.reduceAdd, Nat.reduceMul, Nat.reduceSub, Nat.reduceLT, Nat.reduceLeDiff, Nat.reduceBEq, Int.reduceLE, Int.reduceLT, Int.reduceEq, Int.reduceToNat, Int.reduceAdd, Int.reduceMul, Int.reduceSub, Int.reduceNeg, reduceCtorEq, if_true, if_false, hX, x2]
      refine call_leaf hX (k3 off) rfl rfl (by simp [BAD]) ?_
      simp -implicitDefEqProofs -dsimp only [go_sem, reduceIte, Nat.reduceEqDiff, Nat.reduceAdd, Nat.reduceMul, Nat.reduceSub, Nat.reduceLT, Nat.reduceLeDiff, Nat.reduceBEq, Int.reduceLE, Int.reduceLT, Int.reduceEq, Int.reduceToNat, Int.reduceAdd, Int.reduceMul, Int.reduceSub, Int.reduceNeg, reduceCtorEq, if_true, if_false, hX, x3]
      exact ⟨rfl, rfl⟩
end Go.Proofs.YtbiaogehcnedmaaDoor
