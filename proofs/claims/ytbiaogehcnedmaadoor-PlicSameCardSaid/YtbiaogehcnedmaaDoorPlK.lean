/-
  An act by a plic and the document's.
-/
import Derived.Test.YtbiaogehcnedmaaDoorPlJ
set_option linter.unusedVariables false
set_option linter.unusedSimpArgs false
set_option maxRecDepth 100000
set_option maxHeartbeats 4000000
namespace Go.Proofs.YtbiaogehcnedmaaDoor
open Go Go.SX
theorem PS.look_good {p : PS} (h : p.good) {s : Nat} (hs : s < 32) : (p.look s).good := by
  refine ⟨PS.look_ok h.took hs, ?_, ?_, ?_⟩ <;> (unfold PS.look; split)
  · exact h.b0
  · exact h.b0
  · exact h.b1
  · exact h.b1
  · exact h.p0
  · exact h.p0
theorem PS.level_good {p : PS} (h : p.good) {s : Nat} (hs : s < 32) (u : Bool) : (p.level s u).good := by
  rw [level_set]
  refine PS.look_good ?_ hs
  exact ⟨⟨setBit_lt u h.up hs, h.pend, h.busy, h.len, h.prio, h.on0, h.on1, h.f0, h.f1⟩, h.b0, h.b1, h.p0⟩
theorem PS.rs_good {p : PS} (h : p.good) (d : Pl) : (p.rs d).good := by
  refine ⟨PS.rs_ok h.took d, ?_, ?_, ?_⟩ <;> (cases d <;> first | exact h.b0 | exact h.b1 | exact h.p0 | skip)
  all_goals
    simp only [PS.rs, PS.claim]
    split <;> first | exact h.b0 | exact h.b1 | exact h.p0
theorem ndiff1_bit0 (x : Nat) : (ndiff x 1).testBit 0 = false := by rw [testBit_ndiff]; simp
theorem PS.ws_good {p : PS} (h : p.good) (v off : Nat) : (p.ws v (plDec off)).good := by
  have hok := PS.ws_ok h.took v (off := off)
  have main : ∀ d : Pl, ((∃ i, d = .prio i) ∨ (∃ c, d = .en c) ∨ (∃ c, d = .fl c) ∨ (∃ c, d = .cl c) ∨ d = .pend ∨ d = .none) := by intro d; cases d <;> simp
  generalize plDec off = d at *
  rcases main d with ⟨i, rfl⟩ | ⟨c, rfl⟩ | ⟨c, rfl⟩ | ⟨c, rfl⟩ | rfl | rfl
  · simp only [PS.ws] at hok ⊢
    split at hok
    · rename_i hi; rw [if_pos hi]; exact h
    · rename_i hi
      rw [if_neg hi]
      refine ⟨hok, h.b0, h.b1, ?_⟩
      show (p.prio.set i (v % 8)).getD 0 0 = 0
      rw [List.getD_eq_getElem?_getD, List.getElem?_set, if_neg hi, ← List.getD_eq_getElem?_getD]
      exact h.p0
  · simp only [PS.ws] at hok ⊢
    split at hok <;> rename_i hi
    · rw [if_pos hi]; exact ⟨hok, ndiff1_bit0 _, h.b1, h.p0⟩
    · rw [if_neg hi]; exact ⟨hok, h.b0, ndiff1_bit0 _, h.p0⟩
  · simp only [PS.ws] at hok ⊢
    split at hok <;> rename_i hi
    · rw [if_pos hi]; exact ⟨hok, h.b0, h.b1, h.p0⟩
    · rw [if_neg hi]; exact ⟨hok, h.b0, h.b1, h.p0⟩
  · simp only [PS.ws, PS.complete]
    split
    · rename_i hi
      refine PS.look_good ?_ (by omega)
      exact ⟨⟨h.up, h.pend, ndiff_le _ _ h.busy, h.len, h.prio, h.on0, h.on1, h.f0, h.f1⟩, h.b0, h.b1, h.p0⟩
    · exact h
  · exact h
  · exact h
theorem PS.zero_good : PS.zero.good := ⟨PS.zero_ok, by decide, by decide, by decide⟩
/-- What is done. -/
structure Ap where
  d : Int
  o : Nat
  n : Int
  v : Nat
  s : Int
  u : Bool
structure Ap.ok (a : Ap) : Prop where
  o : a.o < 2 ^ 64
  v : a.v < 2 ^ 64
def Ap.c (a : Ap) : List Value := [.int .i64 a.d, .int .u64 a.o, .int .i64 a.n, .int .u64 a.v, .int .i64 a.s, .bool a.u]
def PS.act (p : PS) (a : Ap) : PS := if a.d = 0 then (if a.n = 4 then p.ws a.v (plDec a.o) else p) else if a.d = 1 then (if a.n = 4 then p.rs (plDec a.o) else p) else if a.d = 2 then (if 1 ≤ a.s ∧ a.s ≤ 31 then p.level a.s.toNat a.u else p) else p
theorem PS.act_good {p : PS} (h : p.good) (a : Ap) : (p.act a).good := by
  unfold PS.act
  repeat' split
  · exact PS.ws_good h _ _
  · exact h
  · exact PS.rs_good h _
  · exact h
  · rename_i hs; exact PS.level_good h (by omega) _
  · exact h
  · exact h
theorem Ap_ridL (θ : Nat → Nat) (a : Ap) : ridL θ a.c = a.c := ridL_leaf _ rfl
theorem mk_Ap (a : Ap) : mk a.c = .flat a.c 6 true := rfl
attribute [push_cast] Ap_ridL
theorem both_spec (GL : List (Nat × List Value)) (hG : lookG GL (GB + 1) = some (.flat tzT 64 false)) (p : PS) (hp : p.good) (a : Ap) (ha : a.ok) :
    SX.Spec Tryd.prog GL 17 2 [.pointer (some ⟨0, 0, none⟩), .pointer (some ⟨1, 0, none⟩), .agg ⟨a.c⟩] [PB p, RP p] (fun v H => v = .bool true ∧ H = [PB (p.act a), RP (p.act a)]) := by
  refine spec_sel (R := fun v H => v = .bool true ∧ ∃ x, H = [PB (p.act a), RP (p.act a), x]) ?_ ?_
  · refine spec_of_ev (fn := Tryd.f17) (by kernel_rfl) law05_both.ok law05_both.rok (Nat.le_of_ble_eq_true rfl) fun X hX hXn => ?_
    unfold law05_both.ic law05_both.rv
    obtain ⟨ad, ao, an, av, sr, au⟩ := a
    obtain ⟨ho, hv⟩ := ha
    simp only at ho hv
    simp only [Ap.c]
    by_cases d0 : ad = 0
    · have e : PS.act p ⟨ad, ao, an, av, sr, au⟩ = if an = 4 then p.ws av (plDec ao) else p := by unfold PS.act; rw [if_pos d0]
      rw [e]
      have x0 : decide (ad = 0) = true := decide_eq_true d0
      simp -implicitDefEqProofs -dsimp only [go_sem, reduceIte, Nat.reduceEqDiff, Nat.reduceAdd, Nat.reduceMul, Nat.reduceSub, Nat.reduceLT, Nat.reduceLeDiff, Nat.reduceBEq, Int.reduceLE, Int.reduceLT, Int.reduceEq, Int.reduceToNat, Int.reduceAdd, Int.reduceMul, Int.reduceSub, Int.reduceNeg, reduceCtorEq, if_true, if_false, hX, mk, x0]
      refine call_of_spec (hX ▸ (write_plic_spec GL p hp.took ao an av ho hv)) [0] (by decide) (by simp) (by simp [BAD]) (by simp) (by simp only [push_cast, reduceIte, Nat.reduceEqDiff, Nat.reduceAdd, Nat.reduceMul, Nat.reduceSub, Nat.reduceLT, Nat.reduceLeDiff, Nat.reduceBEq, Int.reduceLE, Int.reduceLT, Int.reduceEq, Int.reduceToNat, Int.reduceAdd, Int.reduceMul, Int.reduceSub, Int.reduceNeg, reduceCtorEq, if_true, if_false]) (by simp only [push_cast, reduceIte, Nat.reduceEqDiff, Nat.reduceAdd, Nat.reduceMul, Nat.reduceSub, Nat.reduceLT, Nat.reduceLeDiff, Nat.reduceBEq, Int.reduceLE, Int.reduceLT, Int.reduceEq, Int.reduceToNat, Int.reduceAdd, Int.reduceMul, Int.reduceSub, Int.reduceNeg, reduceCtorEq, if_true, if_false]) ?_
      rintro v H ⟨rfl, rfl⟩ _
      simp only [push_cast, reduceIte, Nat.reduceEqDiff, Nat.reduceAdd, Nat.reduceMul, Nat.reduceSub, Nat.reduceLT, Nat.reduceLeDiff, Nat.reduceBEq, Int.reduceLE, Int.reduceLT, Int.reduceEq, Int.reduceToNat, Int.reduceAdd, Int.reduceMul, Int.reduceSub, Int.reduceNeg, reduceCtorEq, if_true, if_false]
      simp -implicitDefEqProofs -dsimp only [go_sem, reduceIte, Nat.reduceEqDiff, Nat.reduceAdd, Nat.reduceMul, Nat.reduceSub, Nat.reduceLT, Nat.reduceLeDiff, Nat.reduceBEq, Int.reduceLE, Int.reduceLT, Int.reduceEq, Int.reduceToNat, Int.reduceAdd, Int.reduceMul, Int.reduceSub, Int.reduceNeg, reduceCtorEq, if_true, if_false, hX]
      refine call_of_spec (hX ▸ (rwrite_spec GL p hp ao an av ho hv)) [1] (by decide) (by simp) (by simp [BAD]) (by simp) (by simp only [push_cast, reduceIte, Nat.reduceEqDiff, Nat.reduceAdd, Nat.reduceMul, Nat.reduceSub, Nat.reduceLT, Nat.reduceLeDiff, Nat.reduceBEq, Int.reduceLE, Int.reduceLT, Int.reduceEq, Int.reduceToNat, Int.reduceAdd, Int.reduceMul, Int.reduceSub, Int.reduceNeg, reduceCtorEq, if_true, if_false]) (by simp only [push_cast, reduceIte, Nat.reduceEqDiff, Nat.reduceAdd, Nat.reduceMul, Nat.reduceSub, Nat.reduceLT, Nat.reduceLeDiff, Nat.reduceBEq, Int.reduceLE, Int.reduceLT, Int.reduceEq, Int.reduceToNat, Int.reduceAdd, Int.reduceMul, Int.reduceSub, Int.reduceNeg, reduceCtorEq, if_true, if_false]) ?_
      rintro v H ⟨rfl, rfl⟩ _
      simp only [push_cast, reduceIte, Nat.reduceEqDiff, Nat.reduceAdd, Nat.reduceMul, Nat.reduceSub, Nat.reduceLT, Nat.reduceLeDiff, Nat.reduceBEq, Int.reduceLE, Int.reduceLT, Int.reduceEq, Int.reduceToNat, Int.reduceAdd, Int.reduceMul, Int.reduceSub, Int.reduceNeg, reduceCtorEq, if_true, if_false]
      simp -implicitDefEqProofs -dsimp only [go_sem, reduceIte, Nat.reduceEqDiff, Nat.reduceAdd, Nat.reduceMul, Nat.reduceSub, Nat.reduceLT, Nat.reduceLeDiff, Nat.reduceBEq, Int.reduceLE, Int.reduceLT, Int.reduceEq, Int.reduceToNat, Int.reduceAdd, Int.reduceMul, Int.reduceSub, Int.reduceNeg, reduceCtorEq, if_true, if_false, hX]
      exact ⟨_, rfl⟩
    have x0 : decide (ad = 0) = false := decide_eq_false d0
    by_cases d1 : ad = 1
    · have e : PS.act p ⟨ad, ao, an, av, sr, au⟩ = if an = 4 then p.rs (plDec ao) else p := by unfold PS.act; rw [if_neg d0, if_pos d1]
      rw [e]
      have x1 : decide (ad = 1) = true := decide_eq_true d1
      simp -implicitDefEqProofs -dsimp only [go_sem, reduceIte, Nat.reduceEqDiff, Nat.reduceAdd, Nat.reduceMul, Nat.reduceSub, Nat.reduceLT, Nat.reduceLeDiff, Nat.reduceBEq, Int.reduceLE, Int.reduceLT, Int.reduceEq, Int.reduceToNat, Int.reduceAdd, Int.reduceMul, Int.reduceSub, Int.reduceNeg, reduceCtorEq, if_true, if_false, hX, mk, x0, x1]
      refine call_of_spec (hX ▸ (read_plic_spec GL hG p hp.took ao an ho)) [0] (by decide) (by simp) (by simp [BAD]) (by simp) (by simp only [push_cast, reduceIte, Nat.reduceEqDiff, Nat.reduceAdd, Nat.reduceMul, Nat.reduceSub, Nat.reduceLT, Nat.reduceLeDiff, Nat.reduceBEq, Int.reduceLE, Int.reduceLT, Int.reduceEq, Int.reduceToNat, Int.reduceAdd, Int.reduceMul, Int.reduceSub, Int.reduceNeg, reduceCtorEq, if_true, if_false]) (by simp only [push_cast, reduceIte, Nat.reduceEqDiff, Nat.reduceAdd, Nat.reduceMul, Nat.reduceSub, Nat.reduceLT, Nat.reduceLeDiff, Nat.reduceBEq, Int.reduceLE, Int.reduceLT, Int.reduceEq, Int.reduceToNat, Int.reduceAdd, Int.reduceMul, Int.reduceSub, Int.reduceNeg, reduceCtorEq, if_true, if_false]) ?_
      rintro v H ⟨rfl, rfl⟩ _
      simp only [push_cast, reduceIte, Nat.reduceEqDiff, Nat.reduceAdd, Nat.reduceMul, Nat.reduceSub, Nat.reduceLT, Nat.reduceLeDiff, Nat.reduceBEq, Int.reduceLE, Int.reduceLT, Int.reduceEq, Int.reduceToNat, Int.reduceAdd, Int.reduceMul, Int.reduceSub, Int.reduceNeg, reduceCtorEq, if_true, if_false]
      simp -implicitDefEqProofs -dsimp only [go_sem, reduceIte, Nat.reduceEqDiff, Nat.reduceAdd, Nat.reduceMul, Nat.reduceSub, Nat.reduceLT, Nat.reduceLeDiff, Nat.reduceBEq, Int.reduceLE, Int.reduceLT, Int.reduceEq, Int.reduceToNat, Int.reduceAdd, Int.reduceMul, Int.reduceSub, Int.reduceNeg, reduceCtorEq, if_true, if_false, hX]
      refine call_of_spec (hX ▸ (rread_spec GL p hp ao an ho)) [1] (by decide) (by simp) (by simp [BAD]) (by simp) (by simp only [push_cast, reduceIte, Nat.reduceEqDiff, Nat.reduceAdd, Nat.reduceMul, Nat.reduceSub, Nat.reduceLT, Nat.reduceLeDiff, Nat.reduceBEq, Int.reduceLE, Int.reduceLT, Int.reduceEq, Int.reduceToNat, Int.reduceAdd, Int.reduceMul, Int.reduceSub, Int.reduceNeg, reduceCtorEq, if_true, if_false]) (by simp only [push_cast, reduceIte, Nat.reduceEqDiff, Nat.reduceAdd, Nat.reduceMul, Nat.reduceSub, Nat.reduceLT, Nat.reduceLeDiff, Nat.reduceBEq, Int.reduceLE, Int.reduceLT, Int.reduceEq, Int.reduceToNat, Int.reduceAdd, Int.reduceMul, Int.reduceSub, Int.reduceNeg, reduceCtorEq, if_true, if_false]) ?_
      rintro v H ⟨rfl, rfl⟩ _
      simp only [push_cast, reduceIte, Nat.reduceEqDiff, Nat.reduceAdd, Nat.reduceMul, Nat.reduceSub, Nat.reduceLT, Nat.reduceLeDiff, Nat.reduceBEq, Int.reduceLE, Int.reduceLT, Int.reduceEq, Int.reduceToNat, Int.reduceAdd, Int.reduceMul, Int.reduceSub, Int.reduceNeg, reduceCtorEq, if_true, if_false]
      simp -implicitDefEqProofs -dsimp only [go_sem, reduceIte, Nat.reduceEqDiff, Nat.reduceAdd, Nat.reduceMul, Nat.reduceSub, Nat.reduceLT, Nat.reduceLeDiff, Nat.reduceBEq, Int.reduceLE, Int.reduceLT, Int.reduceEq, Int.reduceToNat, Int.reduceAdd, Int.reduceMul, Int.reduceSub, Int.reduceNeg, reduceCtorEq, if_true, if_false, hX]
      exact ⟨_, rfl⟩
    have x1 : decide (ad = 1) = false := decide_eq_false d1
    by_cases d2 : ad = 2
    · have e : PS.act p ⟨ad, ao, an, av, sr, au⟩ = if 1 ≤ sr ∧ sr ≤ 31 then p.level sr.toNat au else p := by unfold PS.act; rw [if_neg d0, if_neg d1, if_pos d2]
      rw [e]
      have x2 : decide (ad = 2) = true := decide_eq_true d2
      simp -implicitDefEqProofs -dsimp only [go_sem, reduceIte, Nat.reduceEqDiff, Nat.reduceAdd, Nat.reduceMul, Nat.reduceSub, Nat.reduceLT, Nat.reduceLeDiff, Nat.reduceBEq, Int.reduceLE, Int.reduceLT, Int.reduceEq, Int.reduceToNat, Int.reduceAdd, Int.reduceMul, Int.reduceSub, Int.reduceNeg, reduceCtorEq, if_true, if_false, hX, mk, x0, x1, x2]
      refine call_of_spec (hX ▸ (level_spec GL p hp.took sr au)) [0] (by decide) (by simp) (by simp [BAD]) (by simp) (by simp only [push_cast, reduceIte, Nat.reduceEqDiff, Nat.reduceAdd, Nat.reduceMul, Nat.reduceSub, Nat.reduceLT, Nat.reduceLeDiff, Nat.reduceBEq, Int.reduceLE, Int.reduceLT, Int.reduceEq, Int.reduceToNat, Int.reduceAdd, Int.reduceMul, Int.reduceSub, Int.reduceNeg, reduceCtorEq, if_true, if_false]) (by simp only [push_cast, reduceIte, Nat.reduceEqDiff, Nat.reduceAdd, Nat.reduceMul, Nat.reduceSub, Nat.reduceLT, Nat.reduceLeDiff, Nat.reduceBEq, Int.reduceLE, Int.reduceLT, Int.reduceEq, Int.reduceToNat, Int.reduceAdd, Int.reduceMul, Int.reduceSub, Int.reduceNeg, reduceCtorEq, if_true, if_false]) ?_
      rintro v H ⟨rfl, rfl⟩ _
      simp only [push_cast, reduceIte, Nat.reduceEqDiff, Nat.reduceAdd, Nat.reduceMul, Nat.reduceSub, Nat.reduceLT, Nat.reduceLeDiff, Nat.reduceBEq, Int.reduceLE, Int.reduceLT, Int.reduceEq, Int.reduceToNat, Int.reduceAdd, Int.reduceMul, Int.reduceSub, Int.reduceNeg, reduceCtorEq, if_true, if_false]
      have hq : (if 1 ≤ sr ∧ sr ≤ 31 then p.level sr.toNat au else p).good := by
        split
        · exact PS.level_good hp (by omega) _
        · exact hp
      have hr := rlevel_spec GL p sr au
      generalize (if 1 ≤ sr ∧ sr ≤ 31 then p.level sr.toNat au else p) = q at *
      simp -implicitDefEqProofs -dsimp only [go_sem, reduceIte, Nat.reduceEqDiff, Nat.reduceAdd, Nat.reduceMul, Nat.reduceSub, Nat.reduceLT, Nat.reduceLeDiff, Nat.reduceBEq, Int.reduceLE, Int.reduceLT, Int.reduceEq, Int.reduceToNat, Int.reduceAdd, Int.reduceMul, Int.reduceSub, Int.reduceNeg, reduceCtorEq, if_true, if_false, hX]
      refine mix_intro [0, 2] ?_
      simp -implicitDefEqProofs -dsimp only [go_sem, reduceIte, Nat.reduceEqDiff, Nat.reduceAdd, Nat.reduceMul, Nat.reduceSub, Nat.reduceLT, Nat.reduceLeDiff, Nat.reduceBEq, Int.reduceLE, Int.reduceLT, Int.reduceEq, Int.reduceToNat, Int.reduceAdd, Int.reduceMul, Int.reduceSub, Int.reduceNeg, reduceCtorEq, if_true, if_false, hX]
      refine call_of_spec (hX ▸ (hr)) [1] (by decide) (by simp) (by simp [BAD]) (by simp) (by simp only [push_cast, reduceIte, Nat.reduceEqDiff, Nat.reduceAdd, Nat.reduceMul, Nat.reduceSub, Nat.reduceLT, Nat.reduceLeDiff, Nat.reduceBEq, Int.reduceLE, Int.reduceLT, Int.reduceEq, Int.reduceToNat, Int.reduceAdd, Int.reduceMul, Int.reduceSub, Int.reduceNeg, reduceCtorEq, if_true, if_false]) (by simp only [push_cast, reduceIte, Nat.reduceEqDiff, Nat.reduceAdd, Nat.reduceMul, Nat.reduceSub, Nat.reduceLT, Nat.reduceLeDiff, Nat.reduceBEq, Int.reduceLE, Int.reduceLT, Int.reduceEq, Int.reduceToNat, Int.reduceAdd, Int.reduceMul, Int.reduceSub, Int.reduceNeg, reduceCtorEq, if_true, if_false]) ?_
      rintro v H ⟨rfl, rfl⟩ _
      simp only [push_cast, reduceIte, Nat.reduceEqDiff, Nat.reduceAdd, Nat.reduceMul, Nat.reduceSub, Nat.reduceLT, Nat.reduceLeDiff, Nat.reduceBEq, Int.reduceLE, Int.reduceLT, Int.reduceEq, Int.reduceToNat, Int.reduceAdd, Int.reduceMul, Int.reduceSub, Int.reduceNeg, reduceCtorEq, if_true, if_false]
      simp -implicitDefEqProofs -dsimp only [go_sem, reduceIte, Nat.reduceEqDiff, Nat.reduceAdd, Nat.reduceMul, Nat.reduceSub, Nat.reduceLT, Nat.reduceLeDiff, Nat.reduceBEq, Int.reduceLE, Int.reduceLT, Int.reduceEq, Int.reduceToNat, Int.reduceAdd, Int.reduceMul, Int.reduceSub, Int.reduceNeg, reduceCtorEq, if_true, if_false, hX, PB_all hq.took]
      refine req_intro ?_ (fun _ => ?_)
      · refine call_of_spec (hX ▸ (up_spec GL q hq.took sr)) [] (by decide) (by simp) (by simp [BAD]) (by simp) (by simp only [push_cast, reduceIte, Nat.reduceEqDiff, Nat.reduceAdd, Nat.reduceMul, Nat.reduceSub, Nat.reduceLT, Nat.reduceLeDiff, Nat.reduceBEq, Int.reduceLE, Int.reduceLT, Int.reduceEq, Int.reduceToNat, Int.reduceAdd, Int.reduceMul, Int.reduceSub, Int.reduceNeg, reduceCtorEq, if_true, if_false]) (by simp only [push_cast, reduceIte, Nat.reduceEqDiff, Nat.reduceAdd, Nat.reduceMul, Nat.reduceSub, Nat.reduceLT, Nat.reduceLeDiff, Nat.reduceBEq, Int.reduceLE, Int.reduceLT, Int.reduceEq, Int.reduceToNat, Int.reduceAdd, Int.reduceMul, Int.reduceSub, Int.reduceNeg, reduceCtorEq, if_true, if_false]) ?_
        rintro v H ⟨rfl, rfl⟩ _
        simp only [push_cast, reduceIte, Nat.reduceEqDiff, Nat.reduceAdd, Nat.reduceMul, Nat.reduceSub, Nat.reduceLT, Nat.reduceLeDiff, Nat.reduceBEq, Int.reduceLE, Int.reduceLT, Int.reduceEq, Int.reduceToNat, Int.reduceAdd, Int.reduceMul, Int.reduceSub, Int.reduceNeg, reduceCtorEq, if_true, if_false]
        simp -implicitDefEqProofs -dsimp only [go_sem, reduceIte, Nat.reduceEqDiff, Nat.reduceAdd, Nat.reduceMul, Nat.reduceSub, Nat.reduceLT, Nat.reduceLeDiff, Nat.reduceBEq, Int.reduceLE, Int.reduceLT, Int.reduceEq, Int.reduceToNat, Int.reduceAdd, Int.reduceMul, Int.reduceSub, Int.reduceNeg, reduceCtorEq, if_true, if_false, hX, RP_all q]
        refine call_of_spec (hX ▸ (rup_spec GL q sr)) [] (by decide) (by simp) (by simp [BAD]) (by simp) (by simp only [push_cast, reduceIte, Nat.reduceEqDiff, Nat.reduceAdd, Nat.reduceMul, Nat.reduceSub, Nat.reduceLT, Nat.reduceLeDiff, Nat.reduceBEq, Int.reduceLE, Int.reduceLT, Int.reduceEq, Int.reduceToNat, Int.reduceAdd, Int.reduceMul, Int.reduceSub, Int.reduceNeg, reduceCtorEq, if_true, if_false]) (by simp only [push_cast, reduceIte, Nat.reduceEqDiff, Nat.reduceAdd, Nat.reduceMul, Nat.reduceSub, Nat.reduceLT, Nat.reduceLeDiff, Nat.reduceBEq, Int.reduceLE, Int.reduceLT, Int.reduceEq, Int.reduceToNat, Int.reduceAdd, Int.reduceMul, Int.reduceSub, Int.reduceNeg, reduceCtorEq, if_true, if_false]) ?_
        rintro v H ⟨rfl, rfl⟩ _
        simp only [push_cast, reduceIte, Nat.reduceEqDiff, Nat.reduceAdd, Nat.reduceMul, Nat.reduceSub, Nat.reduceLT, Nat.reduceLeDiff, Nat.reduceBEq, Int.reduceLE, Int.reduceLT, Int.reduceEq, Int.reduceToNat, Int.reduceAdd, Int.reduceMul, Int.reduceSub, Int.reduceNeg, reduceCtorEq, if_true, if_false]
        simp -implicitDefEqProofs -dsimp only [go_sem, reduceIte, Nat.reduceEqDiff, Nat.reduceAdd, Nat.reduceMul, Nat.reduceSub, Nat.reduceLT, Nat.reduceLeDiff, Nat.reduceBEq, Int.reduceLE, Int.reduceLT, Int.reduceEq, Int.reduceToNat, Int.reduceAdd, Int.reduceMul, Int.reduceSub, Int.reduceNeg, reduceCtorEq, if_true, if_false, hX]
        exact ⟨_, rfl⟩
      · simp -implicitDefEqProofs -dsimp only [go_sem, reduceIte, Nat.reduceEqDiff, Nat.reduceAdd, Nat.reduceMul, Nat.reduceSub, Nat.reduceLT, Nat.reduceLeDiff, Nat.reduceBEq, Int.reduceLE, Int.reduceLT, Int.reduceEq, Int.reduceToNat, Int.reduceAdd, Int.reduceMul, Int.reduceSub, Int.reduceNeg, reduceCtorEq, if_true, if_false, hX, RP_all q]
        refine call_of_spec (hX ▸ (up_spec GL q hq.took sr)) [] (by decide) (by simp) (by simp [BAD]) (by simp) (by simp only [push_cast, reduceIte, Nat.reduceEqDiff, Nat.reduceAdd, Nat.reduceMul, Nat.reduceSub, Nat.reduceLT, Nat.reduceLeDiff, Nat.reduceBEq, Int.reduceLE, Int.reduceLT, Int.reduceEq, Int.reduceToNat, Int.reduceAdd, Int.reduceMul, Int.reduceSub, Int.reduceNeg, reduceCtorEq, if_true, if_false]) (by simp only [push_cast, reduceIte, Nat.reduceEqDiff, Nat.reduceAdd, Nat.reduceMul, Nat.reduceSub, Nat.reduceLT, Nat.reduceLeDiff, Nat.reduceBEq, Int.reduceLE, Int.reduceLT, Int.reduceEq, Int.reduceToNat, Int.reduceAdd, Int.reduceMul, Int.reduceSub, Int.reduceNeg, reduceCtorEq, if_true, if_false]) ?_
        rintro v H ⟨rfl, rfl⟩ _
        simp only [push_cast, reduceIte, Nat.reduceEqDiff, Nat.reduceAdd, Nat.reduceMul, Nat.reduceSub, Nat.reduceLT, Nat.reduceLeDiff, Nat.reduceBEq, Int.reduceLE, Int.reduceLT, Int.reduceEq, Int.reduceToNat, Int.reduceAdd, Int.reduceMul, Int.reduceSub, Int.reduceNeg, reduceCtorEq, if_true, if_false]
        simp -implicitDefEqProofs -dsimp only [go_sem, reduceIte, Nat.reduceEqDiff, Nat.reduceAdd, Nat.reduceMul, Nat.reduceSub, Nat.reduceLT, Nat.reduceLeDiff, Nat.reduceBEq, Int.reduceLE, Int.reduceLT, Int.reduceEq, Int.reduceToNat, Int.reduceAdd, Int.reduceMul, Int.reduceSub, Int.reduceNeg, reduceCtorEq, if_true, if_false, hX]
        refine call_of_spec (hX ▸ (rup_spec GL q sr)) [] (by decide) (by simp) (by simp [BAD]) (by simp) (by simp only [push_cast, reduceIte, Nat.reduceEqDiff, Nat.reduceAdd, Nat.reduceMul, Nat.reduceSub, Nat.reduceLT, Nat.reduceLeDiff, Nat.reduceBEq, Int.reduceLE, Int.reduceLT, Int.reduceEq, Int.reduceToNat, Int.reduceAdd, Int.reduceMul, Int.reduceSub, Int.reduceNeg, reduceCtorEq, if_true, if_false]) (by simp only [push_cast, reduceIte, Nat.reduceEqDiff, Nat.reduceAdd, Nat.reduceMul, Nat.reduceSub, Nat.reduceLT, Nat.reduceLeDiff, Nat.reduceBEq, Int.reduceLE, Int.reduceLT, Int.reduceEq, Int.reduceToNat, Int.reduceAdd, Int.reduceMul, Int.reduceSub, Int.reduceNeg, reduceCtorEq, if_true, if_false]) ?_
        rintro v H ⟨rfl, rfl⟩ _
        simp only [push_cast, reduceIte, Nat.reduceEqDiff, Nat.reduceAdd, Nat.reduceMul, Nat.reduceSub, Nat.reduceLT, Nat.reduceLeDiff, Nat.reduceBEq, Int.reduceLE, Int.reduceLT, Int.reduceEq, Int.reduceToNat, Int.reduceAdd, Int.reduceMul, Int.reduceSub, Int.reduceNeg, reduceCtorEq, if_true, if_false]
        simp -implicitDefEqProofs -dsimp only [go_sem, reduceIte, Nat.reduceEqDiff, Nat.reduceAdd, Nat.reduceMul, Nat.reduceSub, Nat.reduceLT, Nat.reduceLeDiff, Nat.reduceBEq, Int.reduceLE, Int.reduceLT, Int.reduceEq, Int.reduceToNat, Int.reduceAdd, Int.reduceMul, Int.reduceSub, Int.reduceNeg, reduceCtorEq, if_true, if_false, hX]
        exact ⟨_, rfl⟩
    have x2 : decide (ad = 2) = false := decide_eq_false d2
    have e : PS.act p ⟨ad, ao, an, av, sr, au⟩ = p := by unfold PS.act; rw [if_neg d0, if_neg d1, if_neg d2]
    rw [e]
    simp -implicitDefEqProofs -dsimp only [go_sem, reduceIte, Nat.reduceEqDiff, Nat.reduceAdd, Nat.reduceMul, Nat.reduceSub, Nat.reduceLT, Nat.reduceLeDiff, Nat.reduceBEq, Int.reduceLE, Int.reduceLT, Int.reduceEq, Int.reduceToNat, Int.reduceAdd, Int.reduceMul, Int.reduceSub, Int.reduceNeg, reduceCtorEq, if_true, if_false, hX, mk, x0, x1, x2]
    exact ⟨_, rfl⟩
  · rintro v H ⟨rfl, x, rfl⟩
    refine ⟨[0, 1], _, _, by decide, by decide, by decide, ?_, rfl, rfl, rfl⟩
    simp only [push_cast, reduceIte, Nat.reduceEqDiff, Nat.reduceAdd, Nat.reduceMul, Nat.reduceSub, Nat.reduceLT, Nat.reduceLeDiff, Nat.reduceBEq, Int.reduceLE, Int.reduceLT, Int.reduceEq, Int.reduceToNat, Int.reduceAdd, Int.reduceMul, Int.reduceSub, Int.reduceNeg, reduceCtorEq, if_true, if_false]
end Go.Proofs.YtbiaogehcnedmaaDoor
