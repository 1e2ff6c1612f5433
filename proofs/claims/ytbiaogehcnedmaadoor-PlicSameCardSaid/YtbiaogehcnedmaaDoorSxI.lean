/-
  Regions, code, functions.
-/
import Derived.Test.YtbiaogehcnedmaaDoorSxH
import Derived.StillTail
import Derived.Deep.Quiet
import Derived.OrdersHeld
import Derived.Scope
set_option linter.unusedVariables false
set_option linter.unusedSimpArgs false
namespace Go.SX
open Go

structure GI where
  g : Option (Nat × Bool)
  i : I
/-- An order of a region's operations: 'take': this one first, whatever else may come up; 'op': this one comes up; 'both': the one or the other may come up. -/
inductive HP where
  | done
  | take (i : Nat) (r : HP)
  | op (i : Nat) (r : HP)
  | both (a b : HP)
inductive PL where
  | done
  | take (g : GI) (r : PL)
  | op (g : GI) (r : PL)
  | both (a b : PL)
inductive Hint where
  | leaf
  | seq (ks : Option (List Nat)) (a b : Hint)
  | cut (ks : List Nat) (a b : Hint)
  | cond (a b : Hint)
  | block (a : Hint)
  | scope (a : Hint)
  | loop (ks : List Nat) (a : Hint)
  | draw (n : Nat)
  | quiet
  | mix (z : Bool) (p : HP)
inductive IC where
  | skip
  | seq (a : IC) (ks : Option (List Nat)) (b : IC)
  | cut (a : IC) (ks : List Nat) (b : IC)
  | reg (ops : List GI)
  | draw (head tail : List GI)
  | quiet (ops : List GI)
  | mix (z : Bool) (p : PL)
  | cond (c : Operand) (a b : IC)
  | block (id : Nat) (a : IC)
  | scope (a : IC)
  | loop (ks : List Nat) (a : IC)
  | exit (id : Nat)
  | ret
def keepo (t : Env) : Option (List Nat) → Env
  | none => t
  | some ks => keep t ks

section
variable (X : Cx) (N : Nat) (P : Program)
/-- A call, told over symbolic heaps. -/
def CallK (f : FuncId) (vs : List Value) (H : List SB) (K : Value → List SB → Prop) : Prop :=
  ∀ w ρ xs, Sat X w ρ H → VRl ρ vs xs → Calls P f xs.toArray w fun e w' => ∃ v x e' H', e = .returned x ∧ VR (ρ ++ e') v x ∧ Sat X w' (ρ ++ e') H' ∧ K v H'
/-- A function with a body. -/
def isFn (f : FuncId) : Prop := ∃ fn, P.funcs[f]? = some fn ∧ fn.body.isSome = true ∧ (fn.name == "runtime.NumGoroutine") = false
/-- Any operation, told over symbolic heaps. -/
def HardK (o : Oper) (t : Env) (H : List SB) (K : Env → List SB → Prop) : Prop :=
  ∀ w a ρ, Sat X w ρ H → Slots N ρ t a → ∀ (next : Act → World → Prop) (Q : Exit → Act → World → Prop),
    (∀ w' x e t' H', Sat X w' (ρ ++ e) H' → Slots N (ρ ++ e) t' (a.put o.dst x) → K t' H' → next (a.put o.dst x) w') → o.wp P a w next Q
/-- An operation of a region that draws its order and whose operations leave all that is known alone. -/
def QuietK (o : Oper) (t : Env) (H : List SB) (K : Env → Prop) : Prop :=
  ∀ ρ a w1, Sat X w1 ρ H → Slots N ρ t a → ∃ x t', K t' ∧ Slots N ρ t' (a.put o.dst x) ∧ ∀ w, Sat X w ρ H → o.quietAt P a (fun w' => Sat X w' ρ H) w x
def putd (t : Env) : Option Nat → Value → Env
  | none, _ => t
  | some d, v => put t d v
def knownAll (t : Env) : List Operand → Bool
  | [] => true
  | x :: xs => known (oe t x) && knownAll t xs
def vals (t : Env) : List Operand → List Value
  | [] => []
  | x :: xs => oe t x :: vals t xs
def step1 (t : Env) (H : List SB) (K : Env → List SB → Prop) : I → Prop
  | .hard _ o => HardK X N P o t H K
  | .call d f args => knownAll t args = true ∧ CallK X P f (vals t args) H fun v H' => K (putd t d v) H'
  | .callv d x args => knownAll t args = true ∧ (match oe t x with
    | .func (.func f) ⟨a⟩ ⟨c⟩ => isFn P f ∧ CallK X P f (a ++ (vals t args ++ c)) H fun v H' => K (putd t d v) H'
    | _ => False)
  | .st x y n => stepE X.GL H t (.st x y n) K
  | .box d x => stepE X.GL H t (.box d x) K
  | .new d z => stepE X.GL H t (.new d z) K
  | .bsl d n sz z ps => stepE X.GL H t (.bsl d n sz z ps) K
  | i => stepP X.GL H t i fun t' => K t' H
/-- What a guard says; of an operation that was passed over it says no. -/
def gv (v : Value) (b : Bool) : Option Bool := match v with
  | .bool x => some (if b then x else !x)
  | .tuple ⟨[]⟩ => some false
  | _ => none
def skipd (t : Env) (i : I) : Env := putd t i.dst undef
def evOps : List GI → Env → List SB → (Env → List SB → Prop) → Prop
  | [], t, H, K => K t H
  | ⟨none, i⟩ :: r, t, H, K => step1 X N P t H (fun t' H' => evOps r t' H' K) i
  | ⟨some (s, b), i⟩ :: r, t, H, K => match gv (get t s) b with
    | some x => br x (step1 X N P t H (fun t' H' => evOps r t' H' K) i) (evOps r (skipd t i) H K)
    | none => False
/-- Instructions that leave the memory alone. -/
def evP (H : List SB) : List GI → Env → (Env → Prop) → Prop
  | [], t, K => K t
  | ⟨none, i⟩ :: r, t, K => isP i = true ∧ stepP X.GL H t i fun t' => evP H r t' K
  | ⟨some (s, b), i⟩ :: r, t, K => match gv (get t s) b with
    | some x => br x (isP i = true ∧ stepP X.GL H t i fun t' => evP H r t' K) (evP H r (skipd t i) K)
    | none => False
/-- A call that leaves all that is known alone. -/
def CallQ (f : FuncId) (vs : List Value) (H : List SB) (K : Value → Prop) : Prop :=
  ∃ v, leaf v = true ∧ K v ∧ ∀ w ρ xs, Sat X w ρ H → VRl ρ vs xs → Calls P f xs.toArray w fun e w' => e = .returned v ∧ Sat X w' ρ H
def stepQ (t : Env) (H : List SB) (K : Env → Prop) : I → Prop
  | .hard _ o => QuietK X N P o t H K
  | .call d f args => knownAll t args = true ∧ CallQ X P f (vals t args) H fun v => K (putd t d v)
  | .callv _ _ _ => False
  | .st _ _ _ => False
  | .box _ _ => False
  | .new _ _ => False
  | .bsl _ _ _ _ _ => False
  | i => stepP X.GL H t i K
def evQ (H : List SB) : List GI → Env → (Env → Prop) → Prop
  | [], t, K => K t
  | ⟨none, i⟩ :: r, t, K => stepQ X N P t H (fun t' => evQ H r t' K) i
  | ⟨some (s, b), i⟩ :: r, t, K => match gv (get t s) b with
    | some x => br x (stepQ X N P t H (fun t' => evQ H r t' K) i) (evQ H r (skipd t i) K)
    | none => False
/-- Two heaps that agree in these regions. -/
def agree (H H' : List SB) : List Nat → Prop
  | [] => True
  | r :: M => H'[r]? = H[r]? ∧ agree H H' M
/-- A load of a region that none in sight turns, or no load. -/
def frzI (M : List Nat) (t : Env) : I → Prop
  | .ld _ x => match oe t x with
    | .pointer (some a) => (decide (GB ≤ a.block) || M.contains a.block) = true
    | _ => False
  | .ldn _ x _ => match oe t x with
    | .pointer (some a) => (decide (GB ≤ a.block) || M.contains a.block) = true
    | _ => False
  | _ => True
/-- The operations of a region in the orders that may come up; the regions 'M' stay as they are. -/
def evL (M : List Nat) : PL → Env → List SB → (Env → List SB → Prop) → Prop
  | .done, t, H, K => K t H
  | .take ⟨none, i⟩ r, t, H, K => isP i = true ∧ frzI M t i ∧ stepP X.GL H t i fun t' => evL M r t' H K
  | .take ⟨some (s, b), i⟩ r, t, H, K => match gv (get t s) b with
    | some x => br x (isP i = true ∧ frzI M t i ∧ stepP X.GL H t i fun t' => evL M r t' H K) (evL M r (skipd t i) H K)
    | none => False
  | .op ⟨none, i⟩ r, t, H, K => step1 X N P t H (fun t' H' => agree H H' M ∧ evL M r t' H' K) i
  | .op ⟨some (s, b), i⟩ r, t, H, K => match gv (get t s) b with
    | some x => br x (step1 X N P t H (fun t' H' => agree H H' M ∧ evL M r t' H' K) i) (evL M r (skipd t i) H K)
    | none => False
  | .both a b, t, H, K => evL M a t H K ∧ evL M b t H K

/-! ### Other numbers for the same regions -/
def sel (is : List Nat) (r : Nat) : Nat := if GB ≤ r then r else if r = BAD then BAD else (is[r]?).getD BAD
def ridM (θ : Nat → Nat) : List MapEntry → List MapEntry
  | [] => []
  | e :: es => { key := rid θ e.key, val := rid θ e.val, born := e.born } :: ridM θ es
def ridO (θ : Nat → Nat) : Obj → Obj
  | .map ⟨es⟩ cl => .map ⟨ridM θ es⟩ cl
  | .mapIter (some m) a b c => .mapIter (some (θ m)) a b c
  | o => o
def ridB (θ : Nat → Nat) : SB → SB
  | .cells c m b => .cells (ridL θ c) m b
  | .flat c m b => .flat c m b
  | .obj o => .obj (ridO θ o)
  | .dead => .dead
def selH (θ : Nat → Nat) (H : List SB) : List Nat → List SB → Prop
  | [], [] => True
  | i :: is, o :: os => (o = .dead ∨ H[i]? = some (ridB θ o)) ∧ selH θ H is os
  | _, _ => False
def selE (θ : Nat → Nat) (t : Env) : Env → Prop
  | [] => True
  | (k, v) :: t' => (known v = true → get t k = rid θ v) ∧ selE θ t t'
def RelK (t : Env) (H : List SB) (K : Env → List SB → Prop) : Prop :=
  ∃ is t' H', is.take X.n = List.range X.n ∧ is.Nodup ∧ (∀ i ∈ is, i < BAD) ∧ selH (sel is) H is H' ∧ selE (sel is) t t' ∧ K t' H'
def LoopK (F : Env → List SB → (Exit → Env → List SB → Prop) → Prop) (t : Env) (H : List SB) (Q : Exit → Env → List SB → Prop) : Prop :=
  ∃ I : Env → List SB → Nat → Prop, RelK X t H (fun t' H' => ∃ m, I t' H' m) ∧
    ∀ t H m, I t H m → F t H fun e t' H' => match e with
      | .normal => RelK X t' H' fun t'' H'' => ∃ m', m' < m ∧ I t'' H'' m'
      | e => Q e t' H'
/-- No jump leaves a scope. -/
def scopeQ (Q : Exit → Env → List SB → Prop) : Exit → Env → List SB → Prop
  | .goto _, _, _ => False
  | e, t, H => Q e t H
/-- Behind the first part only what J tells is known. -/
def cutQ (ks : List Nat) (J : Env → List SB → Prop) (Q : Exit → Env → List SB → Prop) : Exit → Env → List SB → Prop
  | .normal, t, H => RelK X (keep t ks) H J
  | e, t, H => Q e t H
def CutK (F : (Exit → Env → List SB → Prop) → Prop) (ks : List Nat) (G : Env → List SB → (Exit → Env → List SB → Prop) → Prop) (Q : Exit → Env → List SB → Prop) : Prop :=
  ∃ J : Env → List SB → Prop, F (cutQ X ks J Q) ∧ ∀ t H, J t H → G t H Q
def ev : IC → Env → List SB → (Exit → Env → List SB → Prop) → Prop
  | .skip, t, H, Q => Q .normal t H
  | .seq a ks b, t, H, Q => ev a t H fun e t' H' => match e with
    | .normal => ev b (keepo t' ks) H' Q
    | e => Q e t' H'
  | .cut a ks b, t, H, Q => CutK X (ev a t H) ks (ev b) Q
  | .reg ops, t, H, Q => evOps X N P ops t H fun t' H' => Q .normal t' H'
  | .draw head tail, t, H, Q => evP X H head t fun t' => evOps X N P tail t' H fun t' H' => Q .normal t' H'
  | .quiet ops, t, H, Q => evQ X N P H ops t fun t' => Q .normal t' H
  | .mix z p, t, H, Q => if z = true then evL X N P [] p t H (fun t' H' => Q .normal t' H') else ∃ M, evL X N P M p t H fun t' H' => Q .normal t' H'
  | .cond c a b, t, H, Q => match oe t c with
    | .bool x => br x (ev a t H Q) (ev b t H Q)
    | _ => False
  | .block id a, t, H, Q => ev a t H fun e t' H' => match e with
    | .exit id' => if id' = id then Q .normal t' H' else Q (.exit id') t' H'
    | e => Q e t' H'
  | .scope a, t, H, Q => ev a t H (scopeQ Q)
  | .loop ks a, t, H, Q => LoopK X (ev a) (keep t ks) H Q
  | .exit id, t, H, Q => Q (.exit id) t H
  | .ret, t, H, Q => Q .ret t H
end

/-- Cells, told by how many of each; by rows. -/
def zs : List (Nat × Value) → List Value
  | [] => []
  | (n, v) :: r => List.replicate n v ++ zs r
def zr : Nat → List Value → List Value → List Value
  | 0, _, e => e
  | n + 1, r, e => r ++ zr n r e
/-! ### From code to instructions -/
section
variable (P : Program) (N : Nat)
def dok (i : I) : Bool := match i.dst with
  | some d => decide (d < N)
  | none => true
def compG (ops : List Oper) (o : Oper) : Option GI :=
  match compO P o with
  | some i => if dok N i then (match o.guard with
    | none => some ⟨none, i⟩
    | some (j, b) => (match (ops[j]?).bind (·.dst) with
      | some s => some ⟨some (s, b), i⟩
      | none => none)) else none
  | none => none
def compL (ops : List Oper) : List Oper → Option (List GI)
  | [] => some []
  | o :: r => match compG P N ops o, compL ops r with
    | some g, some gs => some (g :: gs)
    | _, _ => none
def idsH : HP → List Nat
  | .op i _ => [i]
  | .both a b => idsH a ++ idsH b
  | _ => []
def compM (ops : Array Oper) : HP → Nat → Array Bool → Bool → Option PL
  | .done, _, listed, true => if (Region.ready .any ops listed).isEmpty then some .done else none
  | .take i r, fuel + 1, listed, true => if (Region.ready .any ops listed).contains i && Region.free .any ops listed i then (match (ops[i]?).bind (compG P N ops.toList), compM ops r fuel (listed.setIfInBounds i true) true with
    | some g, some p => some (.take g p)
    | _, _ => none) else none
  | .op i r, fuel + 1, listed, top => if !top || Region.ready .any ops listed == [i] then (match (ops[i]?).bind (compG P N ops.toList), compM ops r fuel (listed.setIfInBounds i true) true with
    | some g, some p => some (.op g p)
    | _, _ => none) else none
  | .both a b, fuel, listed, top => if !top || Region.ready .any ops listed == idsH (.both a b) then (match compM ops a fuel listed false, compM ops b fuel listed false with
    | some p, some q => some (.both p q)
    | _, _ => none) else none
  | _, _, _, _ => none
def compC : Code → Hint → Option IC
  | .skip, _ => some .skip
  | .label _, _ => some .skip
  | .seq a b, .seq ks h k => match compC a h, compC b k with
    | some x, some y => some (.seq x ks y)
    | _, _ => none
  | .seq a b, .cut ks h k => match compC a h, compC b k with
    | some x, some y => some (.cut x ks y)
    | _, _ => none
  | .region _ ops false, _ => match compL P N ops.toList ops.toList with
    | some l => some (.reg l)
    | none => none
  | .region _ ops true, .draw n => if P.follows .mixedOrders && Region.lexTailB .any ops n then (match compL P N ops.toList (ops.toList.take n), compL P N ops.toList (ops.toList.drop n) with
    | some l, some m => some (.draw l m)
    | _, _ => none) else none
  | .region _ ops true, .quiet => if P.follows .mixedOrders && Region.lexB .any ops then (match compL P N ops.toList ops.toList with
    | some l => some (.quiet l)
    | none => none) else none
  | .region _ ops true, .mix z p => if P.follows .mixedOrders && Region.noSelect ops then (match compM P N ops p ops.size (Array.replicate ops.size false) true with
    | some l => some (.mix z l)
    | none => none) else none
  | .cond c a b, .cond h k => match compC a h, compC b k with
    | some x, some y => if okx c then some (.cond c x y) else none
    | _, _ => none
  | .block id a, .block h => match compC a h with
    | some x => some (.block id x)
    | none => none
  | .scope a, .scope h => match compC a h with
    | some x => some (.scope x)
    | none => none
  | .loop a, .loop ks h => match compC a h with
    | some x => some (.loop ks x)
    | none => none
  | .exit id, _ => some (.exit id)
  | .ret, _ => some .ret
  | _, _ => none
end
end Go.SX
