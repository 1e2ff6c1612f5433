/-
  The law PlicSame over symbolic heaps.
-/
import Derived.Test.YtbiaogehcnedmaaDoorPlL
set_option linter.unusedVariables false
set_option linter.unusedSimpArgs false
set_option maxRecDepth 100000
set_option maxHeartbeats 400000
namespace Go.Proofs.YtbiaogehcnedmaaDoor
open Go Go.SX
theorem wf_nat {k : IntKind} {n : Nat} (hk : k.min = 0) (h : (n : Int) ≤ k.max) : (Lit.int k (n : Int)).wf = true := by
  simp only [Lit.wf, Bool.and_eq_true, decide_eq_true_eq, hk]
  exact ⟨by omega, h⟩
theorem wf_n32 {n : Nat} (h : n < 2 ^ 32) : (Lit.int .u32 (n : Int)).wf = true := wf_nat rfl (by have : IntKind.u32.max = 4294967295 := rfl; omega)
theorem wf_n8 {n : Nat} (h : n < 256) : (Lit.int .u8 (n : Int)).wf = true := wf_nat rfl (by have : IntKind.u8.max = 255 := rfl; omega)
theorem wf_n64 {n : Nat} (h : n < 2 ^ 64) : (Lit.int .u64 (n : Int)).wf = true := wf_nat rfl (by have : IntKind.u64.max = 18446744073709551615 := rfl; omega)
def ksP : List CK := [.i .u32, .i .u32, .i .u32] ++ (List.replicate 32 (.i .u8) ++ [.i .u32, .i .u32, .i .u8, .i .u8])
def ksR : List CK := (List.replicate 32 [CK.i .u64, .b, .b, .b, .b, .b]).flatten ++ [.i .u64, .i .u64]
theorem fit_map : ∀ (l : List Nat), (∀ n ∈ l, n < 256) → FitL (List.replicate l.length (.i .u8)) (l.map fun n : Nat => Value.int .u8 n)
  | [], _ => trivial
  | n :: l, h => ⟨⟨rfl, wf_n8 (h n (by simp))⟩, fit_map l fun m hm => h m (by simp [hm])⟩
theorem PC_fit {p : PS} (h : p.ok) : FitL ksP (PC p) := by
  have hp : ∀ n ∈ p.prio, n < 256 := by
    intro n hn
    obtain ⟨i, hi, rfl⟩ := List.mem_iff_getElem.1 hn
    have := h.prio i
    rw [List.getD_eq_getElem?_getD, List.getElem?_eq_getElem hi] at this
    exact this
  have h1 := fit_map p.prio hp
  rw [h.len] at h1
  have h2 : FitL [.i .u32, .i .u32, .i .u8, .i .u8] [Value.int .u32 p.on0, .int .u32 p.on1, .int .u8 p.f0, .int .u8 p.f1] := ⟨⟨rfl, wf_n32 h.on0⟩, ⟨rfl, wf_n32 h.on1⟩, ⟨rfl, wf_n8 h.f0⟩, ⟨rfl, wf_n8 h.f1⟩, trivial⟩
  have h3 : FitL [.i .u32, .i .u32, .i .u32] [Value.int .u32 p.up, .int .u32 p.pend, .int .u32 p.busy] := ⟨⟨rfl, wf_n32 h.up⟩, ⟨rfl, wf_n32 h.pend⟩, ⟨rfl, wf_n32 h.busy⟩, trivial⟩
  exact h3.append (h1.append h2)
theorem fit_rows {f : Nat → List Value} {ks : List CK} (h : ∀ i, FitL ks (f i)) : ∀ n, FitL (List.replicate n ks).flatten (rows f n)
  | 0 => trivial
  | n + 1 => by
    rw [List.replicate_succ', List.flatten_append, rows]
    exact (fit_rows h n).append (by simpa using h n)
theorem row_fit {p : PS} (h : p.ok) (i : Nat) : FitL [.i .u64, .b, .b, .b, .b, .b] (RR p i) := by
  have hw : p.prio.getD i 0 < 2 ^ 64 := by have := h.prio i; omega
  have h1 := wf_n64 hw
  refine ⟨⟨rfl, ?_⟩, ?_⟩
  · exact h1
  · exact ⟨trivial, trivial, trivial, trivial, trivial, trivial⟩
theorem rows_fit {p : PS} (h : p.ok) (n : Nat) : FitL (List.replicate n [CK.i .u64, .b, .b, .b, .b, .b]).flatten (rows (RR p) n) := fit_rows (row_fit h) n
theorem tail_fit {p : PS} (h : p.ok) : FitL [.i .u64, .i .u64] [Value.int .u64 p.f0, .int .u64 p.f1] := ⟨⟨rfl, wf_n64 (by have := h.f0; omega)⟩, ⟨rfl, wf_n64 (by have := h.f1; omega)⟩, trivial⟩
attribute [local irreducible] FitL rows
theorem RC_fit {p : PS} (h : p.ok) : FitL ksR (RC p) := by
  unfold ksR RC
  exact FitL.append (rows_fit h 32) (tail_fit h)
theorem bits_eq {a b : Nat} (ha : a < 2 ^ 32) (hb : b < 2 ^ 32) (h : ∀ i, i < 32 → a.testBit i = b.testBit i) : a = b := by
  apply Nat.eq_of_testBit_eq
  intro i
  by_cases hi : i < 32
  · exact h i hi
  · rw [bit_out ha (by omega), bit_out hb (by omega)]
theorem prio_eq {p q : PS} (hp : p.ok) (hq : q.ok) (h : ∀ i, i < 32 → p.prio.getD i 0 = q.prio.getD i 0) : p.prio = q.prio := by
  apply List.ext_getElem
  · rw [hp.len, hq.len]
  · intro i h1 h2
    have := h i (by rw [← hp.len]; exact h1)
    rw [List.getD_eq_getElem?_getD, List.getD_eq_getElem?_getD, List.getElem?_eq_getElem h1, List.getElem?_eq_getElem h2] at this
    exact this
theorem PC_inj {p q : PS} (hp : p.ok) (hq : q.ok) : PC p = PC q ↔ p = q := by
  refine ⟨fun h => ?_, fun h => by rw [h]⟩
  have e : ∀ i : Nat, (PC p)[i]? = (PC q)[i]? := fun i => by rw [h]
  have e0 := e 0
  have e1 := e 1
  have e2 := e 2
  have t := fun j => e (35 + j)
  simp only [PC_tail hp, PC_tail hq] at t
  have t0 := t 0
  have t1 := t 1
  have t2 := t 2
  have t3 := t 3
  simp only [PC, List.getElem?_cons_zero, List.getElem?_cons_succ, Option.some.injEq, Value.int.injEq, true_and] at e0 e1 e2 t0 t1 t2 t3
  have ep := prio_eq hp hq fun i hi => by
    have := e (3 + i)
    rw [PC_mid hp hi, PC_mid hq hi] at this
    simp only [Option.some.injEq, Value.int.injEq, true_and] at this
    omega
  cases p; cases q
  simp only [PS.mk.injEq]
  simp only at e0 e1 e2 t0 t1 t2 t3 ep
  exact ⟨by omega, by omega, by omega, ep, by omega, by omega, by omega, by omega⟩
theorem RC_inj {p q : PS} (hp : p.ok) (hq : q.ok) : RC p = RC q ↔ p = q := by
  refine ⟨fun h => ?_, fun h => by rw [h]⟩
  have row : ∀ i k, i < 32 → k < 6 → (RR p i)[k]? = (RR q i)[k]? := by
    intro i k hi hk
    rw [← RP_row p hi hk, ← RP_row q hi hk, RP, RP, h]
  have t : ∀ j : Nat, [Value.int .u64 p.f0, .int .u64 p.f1][j]? = [Value.int .u64 q.f0, .int .u64 q.f1][j]? := fun j => by rw [← RC_tail, ← RC_tail, h]
  have t0 := t 0
  have t1 := t 1
  simp only [List.getElem?_cons_zero, List.getElem?_cons_succ, Option.some.injEq, Value.int.injEq, true_and] at t0 t1
  have r0 := prio_eq hp hq fun i hi => by
    have := row i 0 hi (by omega)
    simp only [RR, List.getElem?_cons_zero, Option.some.injEq, Value.int.injEq, true_and] at this
    omega
  have r1 := bits_eq hp.up hq.up fun i hi => by simpa [RR] using row i 1 hi (by omega)
  have r2 := bits_eq hp.pend hq.pend fun i hi => by simpa [RR] using row i 2 hi (by omega)
  have r3 := bits_eq hp.busy hq.busy fun i hi => by simpa [RR] using row i 3 hi (by omega)
  have r4 := bits_eq hp.on0 hq.on0 fun i hi => by simpa [RR] using row i 4 hi (by omega)
  have r5 := bits_eq hp.on1 hq.on1 fun i hi => by simpa [RR] using row i 5 hi (by omega)
  cases p; cases q
  simp only [PS.mk.injEq]
  simp only at r0 r1 r2 r3 r4 r5 t0 t1
  exact ⟨r1, r2, r3, r0, r4, r5, by omega, by omega⟩
theorem valA : ∀ l, SX.valOf Tryd.prog 43 l = Value.agg ⟨l⟩ := fun l => by unfold SX.valOf; rw [Tryd.underlying43]
theorem valB : ∀ l, SX.valOf Tryd.prog 51 l = Value.agg ⟨l⟩ := fun l => by unfold SX.valOf; rw [Tryd.underlying51]
theorem flatA : flatT Tryd.prog 9 43 = some ksP := by kernel_rfl
theorem flatB : flatT Tryd.prog 40 51 = some ksR := by kernel_rfl
theorem eqA1 : eqT Tryd.prog 9 43 = true := by kernel_rfl
theorem eqB1 : eqT Tryd.prog 40 51 = true := by kernel_rfl
theorem eqA2 : Tryd.prog.eqGuardType Tryd.prog.depth 43 = false := by kernel_rfl
theorem eqB2 : Tryd.prog.eqGuardType Tryd.prog.depth 51 = false := by kernel_rfl
theorem eqA {X : Cx} {N : Nat} {H : List SB} {t : Env} {K : Env → List SB → Prop} {o : Oper} {d : Nat} {x y : Operand} {g : TypeId} {p q : PS} (hp : p.ok) (hq : q.ok)
    (ho : o.op = .binOp .eql 43 x y g) (hd : o.dst = some d) (hN : d < N) (hx : okx x = true) (hy : okx y = true) (ex : oe t x = .agg ⟨PC p⟩) (ey : oe t y = .agg ⟨PC q⟩)
    (hK : ∀ r : Bool, (r = true ↔ p = q) → K (SX.put t d (.bool r)) H) : HardK X N Tryd.prog o t H K := by
  refine aeq_ok (n := 9) (ks := ksP) false ho hd hN hx hy valA flatA eqA1 eqA2 (by decide) ex ey (PC_fit hp) (PC_fit hq) fun r hr => ?_
  exact hK r (by rw [hr, PC_inj hp hq])
theorem eqB {X : Cx} {N : Nat} {H : List SB} {t : Env} {K : Env → List SB → Prop} {o : Oper} {d : Nat} {x y : Operand} {g : TypeId} {p q : PS} (hp : p.ok) (hq : q.ok)
    (ho : o.op = .binOp .eql 51 x y g) (hd : o.dst = some d) (hN : d < N) (hx : okx x = true) (hy : okx y = true) (ex : oe t x = .agg ⟨RC p⟩) (ey : oe t y = .agg ⟨RC q⟩)
    (hK : ∀ r : Bool, (r = true ↔ p = q) → K (SX.put t d (.bool r)) H) : HardK X N Tryd.prog o t H K := by
  refine aeq_ok (n := 40) (ks := ksR) false ho hd hN hx hy valB flatB eqB1 eqB2 (by decide) ex ey (RC_fit hp) (RC_fit hq) fun r hr => ?_
  exact hK r (by rw [hr, RC_inj hp hq])
end Go.Proofs.YtbiaogehcnedmaaDoor
