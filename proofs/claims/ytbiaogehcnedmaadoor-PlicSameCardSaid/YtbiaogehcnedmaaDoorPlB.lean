/-
  A plic: its cells; what its small functions do.
-/
import Derived.Test.YtbiaogehcnedmaaDoorPlA
set_option linter.unusedVariables false
set_option linter.unusedSimpArgs false
set_option maxRecDepth 100000
namespace Go.Proofs.YtbiaogehcnedmaaDoor
open Go Go.SX
structure PS where
  up : Nat
  pend : Nat
  busy : Nat
  prio : List Nat
  on0 : Nat
  on1 : Nat
  f0 : Nat
  f1 : Nat
structure PS.ok (p : PS) : Prop where
  up : p.up < 2 ^ 32
  pend : p.pend < 2 ^ 32
  busy : p.busy < 2 ^ 32
  len : p.prio.length = 32
  prio : ∀ i, p.prio.getD i 0 < 256
  on0 : p.on0 < 2 ^ 32
  on1 : p.on1 < 2 ^ 32
  f0 : p.f0 < 256
  f1 : p.f1 < 256
def PC (p : PS) : List Value := .int .u32 p.up :: .int .u32 p.pend :: .int .u32 p.busy :: (p.prio.map (fun n : Nat => Value.int .u8 n) ++ [.int .u32 p.on0, .int .u32 p.on1, .int .u8 p.f0, .int .u8 p.f1])
def PB (p : PS) : SB := .flat (PC p) 39 true
theorem PC_length {p : PS} (h : p.ok) : (PC p).length = 39 := by simp [PC, h.len]
theorem PC_leaf (p : PS) : leafL (PC p) = true := by
  have : leafL (p.prio.map (fun n : Nat => Value.int .u8 n)) = true := leafL_iff.2 fun v hv => by obtain ⟨n, _, rfl⟩ := List.mem_map.1 hv; rfl
  simp [PC, leafL, leafL_append, this, leaf]
theorem PB_rid (θ : Nat → Nat) (p : PS) : SX.ridB θ (PB p) = PB p := rfl
theorem PC_mid {p : PS} (h : p.ok) {i : Nat} (hi : i < 32) : (PC p)[3 + i]? = some (.int .u8 (p.prio.getD i 0 : Nat)) := by
  simp only [PC]
  have e : 3 + i = i + 1 + 1 + 1 := by omega
  rw [e, List.getElem?_cons_succ, List.getElem?_cons_succ, List.getElem?_cons_succ, List.getElem?_append_left (by simp [h.len]; exact hi), List.getElem?_map, List.getD_eq_getElem?_getD, List.getElem?_eq_getElem (by rw [h.len]; exact hi)]
  rfl
theorem PC_tail {p : PS} (h : p.ok) (j : Nat) : (PC p)[35 + j]? = [Value.int .u32 p.on0, .int .u32 p.on1, .int .u8 p.f0, .int .u8 p.f1][j]? := by
  simp only [PC]
  have e : 35 + j = (32 + j) + 1 + 1 + 1 := by omega
  rw [e, List.getElem?_cons_succ, List.getElem?_cons_succ, List.getElem?_cons_succ, List.getElem?_append_right (by simp [h.len])]
  congr 1; simp [h.len]
theorem PB_up (p : PS) : rd (some (PB p)) 0 = some (.int .u32 p.up) := rfl
theorem PB_pend (p : PS) : rd (some (PB p)) 1 = some (.int .u32 p.pend) := rfl
theorem PB_busy (p : PS) : rd (some (PB p)) 2 = some (.int .u32 p.busy) := rfl
theorem PB_prio {p : PS} (h : p.ok) {i : Nat} (hi : i < 32) : rd (some (PB p)) (3 + i) = some (.int .u8 (p.prio.getD i 0 : Nat)) := PC_mid h hi
theorem PB_on0 {p : PS} (h : p.ok) : rd (some (PB p)) 35 = some (.int .u32 p.on0) := PC_tail h 0
theorem PB_on1 {p : PS} (h : p.ok) : rd (some (PB p)) 36 = some (.int .u32 p.on1) := PC_tail h 1
theorem PB_f0 {p : PS} (h : p.ok) : rd (some (PB p)) 37 = some (.int .u8 p.f0) := PC_tail h 2
theorem PB_f1 {p : PS} (h : p.ok) : rd (some (PB p)) 38 = some (.int .u8 p.f1) := PC_tail h 3
theorem PB_all {p : PS} (h : p.ok) : rdn (some (PB p)) 0 39 = some (PC p) := by
  simp only [PB, rdn]
  rw [if_pos (by rw [PC_length h]; omega), List.drop_zero, List.take_of_length_le (by rw [PC_length h]; omega)]
theorem wrt1 {c : List Value} {m i : Nat} {v : Value} (hi : i < c.length) (h1 : v.oneCell' = true) (h2 : leaf v = true) : wrt (some (.flat c m true)) i [v] = some (.flat (c.set i v) m true) := by
  simp only [wrt, oneL, leafL, h1, h2, setAll]
  simp; omega
theorem PB_wup {p : PS} (h : p.ok) (n : Nat) : wrt (some (PB p)) 0 [.int .u32 n] = some (PB { p with up := n }) := by
  rw [PB, wrt1 (by rw [PC_length h]; omega) rfl rfl]; rfl
theorem PB_wpend {p : PS} (h : p.ok) (n : Nat) : wrt (some (PB p)) 1 [.int .u32 n] = some (PB { p with pend := n }) := by
  rw [PB, wrt1 (by rw [PC_length h]; omega) rfl rfl]; rfl
theorem PB_wbusy {p : PS} (h : p.ok) (n : Nat) : wrt (some (PB p)) 2 [.int .u32 n] = some (PB { p with busy := n }) := by
  rw [PB, wrt1 (by rw [PC_length h]; omega) rfl rfl]; rfl
theorem PB_wprio {p : PS} (h : p.ok) {i : Nat} (hi : i < 32) (n : Nat) : wrt (some (PB p)) (3 + i) [.int .u8 n] = some (PB { p with prio := p.prio.set i n }) := by
  rw [PB, wrt1 (by rw [PC_length h]; omega) rfl rfl]
  simp only [PB, PC]
  have e : 3 + i = i + 1 + 1 + 1 := by omega
  rw [e, List.set_cons_succ, List.set_cons_succ, List.set_cons_succ, List.set_append_left _ _ (by simp [h.len]; exact hi), List.map_set]
theorem PC_wtail {p : PS} (h : p.ok) (j : Nat) (v : Value) : (PC p).set (35 + j) v = .int .u32 p.up :: .int .u32 p.pend :: .int .u32 p.busy :: (p.prio.map (fun n : Nat => Value.int .u8 n) ++ [Value.int .u32 p.on0, .int .u32 p.on1, .int .u8 p.f0, .int .u8 p.f1].set j v) := by
  simp only [PC]
  have e : 35 + j = (32 + j) + 1 + 1 + 1 := by omega
  rw [e, List.set_cons_succ, List.set_cons_succ, List.set_cons_succ, List.set_append_right _ _ (by simp [h.len])]
  simp [h.len]
theorem PB_won0 {p : PS} (h : p.ok) (n : Nat) : wrt (some (PB p)) 35 [.int .u32 n] = some (PB { p with on0 := n }) := by
  rw [PB, wrt1 (by rw [PC_length h]; omega) rfl rfl]; simp only [PB, PC_wtail h 0]; rfl
theorem PB_won1 {p : PS} (h : p.ok) (n : Nat) : wrt (some (PB p)) 36 [.int .u32 n] = some (PB { p with on1 := n }) := by
  rw [PB, wrt1 (by rw [PC_length h]; omega) rfl rfl]; simp only [PB, PC_wtail h 1]; rfl
theorem PB_wf0 {p : PS} (h : p.ok) (n : Nat) : wrt (some (PB p)) 37 [.int .u8 n] = some (PB { p with f0 := n }) := by
  rw [PB, wrt1 (by rw [PC_length h]; omega) rfl rfl]; simp only [PB, PC_wtail h 2]; rfl
theorem PB_wf1 {p : PS} (h : p.ok) (n : Nat) : wrt (some (PB p)) 38 [.int .u8 n] = some (PB { p with f1 := n }) := by
  rw [PB, wrt1 (by rw [PC_length h]; omega) rfl rfl]; simp only [PB, PC_wtail h 3]; rfl
attribute [go_sem] PB_up PB_pend PB_busy
attribute [push_cast] PB_rid

/-! ### What is done to it -/
def PS.look (p : PS) (s : Nat) : PS := if p.up.testBit s && !p.busy.testBit s then { p with pend := p.pend ||| 2 ^ s } else p
def PS.level (p : PS) (s : Nat) (u : Bool) : PS := PS.look { p with up := if u then ndiff p.up (2 ^ s) ||| 2 ^ s else ndiff p.up (2 ^ s) } s
theorem pow32 {s : Nat} (h : s < 32) : 2 ^ s < 2 ^ 32 := Nat.pow_lt_pow_right (by omega) h
theorem PS.look_ok {p : PS} (h : p.ok) {s : Nat} (hs : s < 32) : (p.look s).ok := by
  unfold PS.look
  split
  · exact { h with pend := Nat.or_lt_two_pow h.pend (pow32 hs) }
  · exact h
theorem PS.level_ok {p : PS} (h : p.ok) {s : Nat} (hs : s < 32) (u : Bool) : (p.level s u).ok := by
  unfold PS.level
  refine PS.look_ok ?_ hs
  refine ⟨?_, h.pend, h.busy, h.len, h.prio, h.on0, h.on1, h.f0, h.f1⟩
  show (if u = true then _ else _) < 2 ^ 32
  split
  · exact Nat.or_lt_two_pow (ndiff_le _ _ h.up) (pow32 hs)
  · exact ndiff_le _ _ h.up
theorem is_spec (GL : List (Nat × List Value)) (s : Int) : SX.Spec Tryd.prog GL 33 0 [.int .i64 s] [] (fun v H => v = .bool (decide (1 ≤ s ∧ s ≤ 31)) ∧ H = []) := by
  refine spec_of_ev (fn := Tryd.f33) (by kernel_rfl) plic_is.ok plic_is.rok (Nat.le_of_ble_eq_true rfl) fun X hX hXn => ?_
  unfold plic_is.ic plic_is.rv
  simp -implicitDefEqProofs -dsimp only [go_sem, reduceIte, Nat.reduceEqDiff, Nat.reduceAdd, Nat.reduceMul, Nat.reduceSub, Nat.reduceLT, Nat.reduceLeDiff, Nat.reduceBEq, Int.reduceLE, Int.reduceLT, Int.reduceEq, Int.reduceToNat, Int.reduceAdd, Int.reduceMul, Int.reduceSub, Int.reduceNeg, reduceCtorEq, if_true, if_false, hX]
  refine brS_intro (fun h => ?_) (fun h => ?_) <;> simp -implicitDefEqProofs -dsimp only [go_sem, reduceIte, Nat.reduceEqDiff, Nat.reduceAdd, Nat.reduceMul, Nat.reduceSub, Nat.reduceLT, Nat.reduceLeDiff, Nat.reduceBEq, Int.reduceLE, Int.reduceLT, Int.reduceEq, Int.reduceToNat, Int.reduceAdd, Int.reduceMul, Int.reduceSub, Int.reduceNeg, reduceCtorEq, if_true, if_false, h, hX]
  · have : 1 ≤ s := by simpa using h
    simp [this]
  · have : ¬ 1 ≤ s := by simpa using h
    simp [this]
theorem look_spec (GL : List (Nat × List Value)) (p : PS) (hp : p.ok) (s : Nat) (hs : s < 32) : SX.Spec Tryd.prog GL 34 1 [.pointer (some ⟨0, 0, none⟩), .int .i64 s] [PB p] (fun v H => v = .tuple ⟨[]⟩ ∧ H = [PB (p.look s)]) := by
  refine spec_of_ev (fn := Tryd.f34) (by kernel_rfl) plic_Plic_look.ok plic_Plic_look.rok (Nat.le_of_ble_eq_true rfl) fun X hX hXn => ?_
  unfold plic_Plic_look.ic plic_Plic_look.rv
  have e1 : ishl .u32 1 (s : Int) = ((2 ^ s : Nat) : Int) := ishl_one rfl hs
  have e2 : ior .u32 (p.pend : Int) ((2 ^ s : Nat) : Int) = ((p.pend ||| 2 ^ s : Nat) : Int) := ior_nat rfl hp.pend (pow32 hs)
  simp -implicitDefEqProofs -dsimp only [go_sem, reduceIte, Nat.reduceEqDiff, Nat.reduceAdd, Nat.reduceMul, Nat.reduceSub, Nat.reduceLT, Nat.reduceLeDiff, Nat.reduceBEq, Int.reduceLE, Int.reduceLT, Int.reduceEq, Int.reduceToNat, Int.reduceAdd, Int.reduceMul, Int.reduceSub, Int.reduceNeg, reduceCtorEq, if_true, if_false, hX]
  refine call_leaf hX (bit32n_spec GL p.up s hp.up (by omega)) rfl rfl ?_ ?_
  · simp [BAD]
  simp -implicitDefEqProofs -dsimp only [go_sem, reduceIte, Nat.reduceEqDiff, Nat.reduceAdd, Nat.reduceMul, Nat.reduceSub, Nat.reduceLT, Nat.reduceLeDiff, Nat.reduceBEq, Int.reduceLE, Int.reduceLT, Int.reduceEq, Int.reduceToNat, Int.reduceAdd, Int.reduceMul, Int.reduceSub, Int.reduceNeg, reduceCtorEq, if_true, if_false, hX]
  cases h1 : p.up.testBit s with
  | false =>
    simp -implicitDefEqProofs -dsimp only [go_sem, reduceIte, Nat.reduceEqDiff, Nat.reduceAdd, Nat.reduceMul, Nat.reduceSub, Nat.reduceLT, Nat.reduceLeDiff, Nat.reduceBEq, Int.reduceLE, Int.reduceLT, Int.reduceEq, Int.reduceToNat, Int.reduceAdd, Int.reduceMul, Int.reduceSub, Int.reduceNeg, reduceCtorEq, if_true, if_false, hX]
    rw [PS.look, h1]; rfl
  | true =>
    simp -implicitDefEqProofs -dsimp only [go_sem, reduceIte, Nat.reduceEqDiff, Nat.reduceAdd, Nat.reduceMul, Nat.reduceSub, Nat.reduceLT, Nat.reduceLeDiff, Nat.reduceBEq, Int.reduceLE, Int.reduceLT, Int.reduceEq, Int.reduceToNat, Int.reduceAdd, Int.reduceMul, Int.reduceSub, Int.reduceNeg, reduceCtorEq, if_true, if_false, hX]
    refine call_leaf hX (bit32n_spec GL p.busy s hp.busy (by omega)) rfl rfl ?_ ?_
    · simp [BAD]
    simp -implicitDefEqProofs -dsimp only [go_sem, reduceIte, Nat.reduceEqDiff, Nat.reduceAdd, Nat.reduceMul, Nat.reduceSub, Nat.reduceLT, Nat.reduceLeDiff, Nat.reduceBEq, Int.reduceLE, Int.reduceLT, Int.reduceEq, Int.reduceToNat, Int.reduceAdd, Int.reduceMul, Int.reduceSub, Int.reduceNeg, reduceCtorEq, if_true, if_false, hX]
    cases h2 : p.busy.testBit s with
    | true =>
      simp -implicitDefEqProofs -dsimp only [go_sem, reduceIte, Nat.reduceEqDiff, Nat.reduceAdd, Nat.reduceMul, Nat.reduceSub, Nat.reduceLT, Nat.reduceLeDiff, Nat.reduceBEq, Int.reduceLE, Int.reduceLT, Int.reduceEq, Int.reduceToNat, Int.reduceAdd, Int.reduceMul, Int.reduceSub, Int.reduceNeg, reduceCtorEq, if_true, if_false, hX]
      rw [PS.look, h1, h2]; rfl
    | false =>
      simp -implicitDefEqProofs -dsimp only [go_sem, reduceIte, Nat.reduceEqDiff, Nat.reduceAdd, Nat.reduceMul, Nat.reduceSub, Nat.reduceLT, Nat.reduceLeDiff, Nat.reduceBEq, Int.reduceLE, Int.reduceLT, Int.reduceEq, Int.reduceToNat, Int.reduceAdd, Int.reduceMul, Int.reduceSub, Int.reduceNeg, reduceCtorEq, if_true, if_false, hX, e1, e2, PB_wpend hp]
      rw [PS.look, h1, h2]; rfl
theorem level_spec (GL : List (Nat × List Value)) (p : PS) (hp : p.ok) (s : Int) (u : Bool) : SX.Spec Tryd.prog GL 16 1 [.pointer (some ⟨0, 0, none⟩), .int .i64 s, .bool u] [PB p] (fun v H => v = .bool (decide (1 ≤ s ∧ s ≤ 31)) ∧ H = [PB (if 1 ≤ s ∧ s ≤ 31 then p.level s.toNat u else p)]) := by
  refine spec_of_ev (fn := Tryd.f16) (by kernel_rfl) plic_Plic_Level.ok plic_Plic_Level.rok (Nat.le_of_ble_eq_true rfl) fun X hX hXn => ?_
  unfold plic_Plic_Level.ic plic_Plic_Level.rv
  simp -implicitDefEqProofs -dsimp only [go_sem, reduceIte, Nat.reduceEqDiff, Nat.reduceAdd, Nat.reduceMul, Nat.reduceSub, Nat.reduceLT, Nat.reduceLeDiff, Nat.reduceBEq, Int.reduceLE, Int.reduceLT, Int.reduceEq, Int.reduceToNat, Int.reduceAdd, Int.reduceMul, Int.reduceSub, Int.reduceNeg, reduceCtorEq, if_true, if_false, hX]
  refine call_leaf hX (is_spec GL s) rfl rfl ?_ ?_
  · simp [BAD]
  by_cases h : 1 ≤ s ∧ s ≤ 31
  · obtain ⟨k, rfl⟩ := Int.eq_ofNat_of_zero_le (show 0 ≤ s by omega)
    have hk : k < 32 := by omega
    have e0 : decide (1 ≤ (k : Int) ∧ (k : Int) ≤ 31) = true := by simp; omega
    have e1 : ishl .u32 1 (k : Int) = ((2 ^ k : Nat) : Int) := ishl_one rfl hk
    have e2 : iandNot .u32 (p.up : Int) ((2 ^ k : Nat) : Int) = ((ndiff p.up (2 ^ k) : Nat) : Int) := iandNot_nat rfl hp.up (pow32 hk)
    have e3 : ior .u32 ((ndiff p.up (2 ^ k) : Nat) : Int) ((2 ^ k : Nat) : Int) = ((ndiff p.up (2 ^ k) ||| 2 ^ k : Nat) : Int) := ior_nat rfl (ndiff_le _ _ hp.up) (pow32 hk)
    have hp1 : PS.ok { p with up := ndiff p.up (2 ^ k) } := { hp with up := ndiff_le _ _ hp.up }
    have hp2 : PS.ok { p with up := ndiff p.up (2 ^ k) ||| 2 ^ k } := { hp with up := Nat.or_lt_two_pow (ndiff_le _ _ hp.up) (pow32 hk) }
    cases u
    · simp -implicitDefEqProofs -dsimp only [go_sem, reduceIte, Nat.reduceEqDiff, Nat.reduceAdd, Nat.reduceMul, Nat.reduceSub, Nat.reduceLT, Nat.reduceLeDiff, Nat.reduceBEq, Int.reduceLE, Int.reduceLT, Int.reduceEq, Int.reduceToNat, Int.reduceAdd, Int.reduceMul, Int.reduceSub, Int.reduceNeg, reduceCtorEq, if_true, if_false, hX, e0, e1, e2, PB_wup hp]
      refine call_of_spec (hX ▸ (look_spec GL _ hp1 k hk)) [0] (by decide) (by simp) (by simp [BAD]) (by simp) (by simp only [push_cast, reduceIte, Nat.reduceEqDiff, Nat.reduceAdd, Nat.reduceMul, Nat.reduceSub, Nat.reduceLT, Nat.reduceLeDiff, Nat.reduceBEq, Int.reduceLE, Int.reduceLT, Int.reduceEq, Int.reduceToNat, Int.reduceAdd, Int.reduceMul, Int.reduceSub, Int.reduceNeg, reduceCtorEq, if_true, if_false]) (by simp only [push_cast, reduceIte, Nat.reduceEqDiff, Nat.reduceAdd, Nat.reduceMul, Nat.reduceSub, Nat.reduceLT, Nat.reduceLeDiff, Nat.reduceBEq, Int.reduceLE, Int.reduceLT, Int.reduceEq, Int.reduceToNat, Int.reduceAdd, Int.reduceMul, Int.reduceSub, Int.reduceNeg, reduceCtorEq, if_true, if_false]) ?_
      rintro v H ⟨rfl, rfl⟩ _
      simp only [push_cast, reduceIte, Nat.reduceEqDiff, Nat.reduceAdd, Nat.reduceMul, Nat.reduceSub, Nat.reduceLT, Nat.reduceLeDiff, Nat.reduceBEq, Int.reduceLE, Int.reduceLT, Int.reduceEq, Int.reduceToNat, Int.reduceAdd, Int.reduceMul, Int.reduceSub, Int.reduceNeg, reduceCtorEq, if_true, if_false]
      simp -implicitDefEqProofs -dsimp only [go_sem, reduceIte, Nat.reduceEqDiff, Nat.reduceAdd, Nat.reduceMul, Nat.reduceSub, Nat.reduceLT, Nat.reduceLeDiff, Nat.reduceBEq, Int.reduceLE, Int.reduceLT, Int.reduceEq, Int.reduceToNat, Int.reduceAdd, Int.reduceMul, Int.reduceSub, Int.reduceNeg, reduceCtorEq, if_true, if_false, hX]
      rw [if_pos h]; rfl
    · simp -implicitDefEqProofs -dsimp only [go_sem, reduceIte, Nat.reduceEqDiff, Nat.reduceAdd, Nat.reduceMul, Nat.reduceSub, Nat.reduceLT, Nat.reduceLeDiff, Nat.reduceBEq, Int.reduceLE, Int.reduceLT, Int.reduceEq, Int.reduceToNat, Int.reduceAdd, Int.reduceMul, Int.reduceSub, Int.reduceNeg, reduceCtorEq, if_true, if_false, hX, e0, e1, e2, e3, PB_wup hp, PB_wup hp1]
      refine call_of_spec (hX ▸ (look_spec GL _ hp2 k hk)) [0] (by decide) (by simp) (by simp [BAD]) (by simp) (by simp only [push_cast, reduceIte, Nat.reduceEqDiff, Nat.reduceAdd, Nat.reduceMul, Nat.reduceSub, Nat.reduceLT, Nat.reduceLeDiff, Nat.reduceBEq, Int.reduceLE, Int.reduceLT, Int.reduceEq, Int.reduceToNat, Int.reduceAdd, Int.reduceMul, Int.reduceSub, Int.reduceNeg, reduceCtorEq, if_true, if_false]) (by simp only [push_cast, reduceIte, Nat.reduceEqDiff, Nat.reduceAdd, Nat.reduceMul, Nat.reduceSub, Nat.reduceLT, Nat.reduceLeDiff, Nat.reduceBEq, Int.reduceLE, Int.reduceLT, Int.reduceEq, Int.reduceToNat, Int.reduceAdd, Int.reduceMul, Int.reduceSub, Int.reduceNeg, reduceCtorEq, if_true, if_false]) ?_
      rintro v H ⟨rfl, rfl⟩ _
      simp only [push_cast, reduceIte, Nat.reduceEqDiff, Nat.reduceAdd, Nat.reduceMul, Nat.reduceSub, Nat.reduceLT, Nat.reduceLeDiff, Nat.reduceBEq, Int.reduceLE, Int.reduceLT, Int.reduceEq, Int.reduceToNat, Int.reduceAdd, Int.reduceMul, Int.reduceSub, Int.reduceNeg, reduceCtorEq, if_true, if_false]
      simp -implicitDefEqProofs -dsimp only [go_sem, reduceIte, Nat.reduceEqDiff, Nat.reduceAdd, Nat.reduceMul, Nat.reduceSub, Nat.reduceLT, Nat.reduceLeDiff, Nat.reduceBEq, Int.reduceLE, Int.reduceLT, Int.reduceEq, Int.reduceToNat, Int.reduceAdd, Int.reduceMul, Int.reduceSub, Int.reduceNeg, reduceCtorEq, if_true, if_false, hX]
      rw [if_pos h]; rfl
  · have e0 : decide (1 ≤ s ∧ s ≤ 31) = false := by simpa using h
    simp -implicitDefEqProofs -dsimp only [go_sem, reduceIte, Nat.reduceEqDiff, Nat.reduceAdd, Nat.reduceMul, Nat.reduceSub, Nat.reduceLT, Nat.reduceLeDiff, Nat.reduceBEq, Int.reduceLE, Int.reduceLT, Int.reduceEq, Int.reduceToNat, Int.reduceAdd, Int.reduceMul, Int.reduceSub, Int.reduceNeg, reduceCtorEq, if_true, if_false, hX, e0]
    rw [if_neg h]
end Go.Proofs.YtbiaogehcnedmaaDoor
