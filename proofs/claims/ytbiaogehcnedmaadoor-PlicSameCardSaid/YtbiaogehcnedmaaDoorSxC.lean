/-
  Instructions: what an operation of the loaded program does to an environment (slots and their values) and a symbolic heap.
-/
import Derived.Test.YtbiaogehcnedmaaDoorSxB
set_option linter.unusedVariables false
set_option linter.unusedSimpArgs false
namespace Go.SX
open Go

abbrev Env := List (Nat × Value)
def get : Env → Nat → Value
  | [], _ => .chan none
  | (k, v) :: t, n => if k = n then v else get t n
def known : Value → Bool
  | .chan _ => false
  | _ => true
def put (t : Env) (d : Nat) (v : Value) : Env := (d, v) :: t
def keep (t : Env) : List Nat → Env
  | [] => []
  | k :: ks => (k, get t k) :: keep t ks
def oe (t : Env) : Operand → Value
  | .tmp n => get t n
  | .const v => v
  | .global g => .pointer (some ⟨GB + g, 0, none⟩)
  | .func f => .func (.func f) #[] #[]
/-- A branch. -/
def br (b : Bool) (p q : Prop) : Prop := if b = true then p else q
theorem br_true (p q : Prop) : br true p q = p := by simp [br]
theorem br_false (p q : Prop) : br false p q = q := by simp [br]
theorem br_intro {b : Bool} {p q : Prop} (h1 : b = true → p) (h2 : b = false → q) : br b p q := by
  cases b
  · rw [br_false]; exact h2 rfl
  · rw [br_true]; exact h1 rfl

def lookG : List (Nat × List Value) → Nat → Option SB
  | [], _ => none
  | (g, c) :: l, r => if r = GB + g then some (.flat c c.length false) else lookG l r
def look (GL : List (Nat × List Value)) (H : List SB) (r : Nat) : Option SB := if GB ≤ r then lookG GL r else if r = BAD then none else H[r]?
def rd : Option SB → Nat → Option Value
  | some (.cells c _ _), i => c[i]?
  | some (.flat c _ _), i => c[i]?
  | _, _ => none
def rdn : Option SB → Nat → Nat → Option (List Value)
  | some (.cells c _ _), i, n => if i + n ≤ c.length then some ((c.drop i).take n) else none
  | some (.flat c _ _), i, n => if i + n ≤ c.length then some ((c.drop i).take n) else none
  | _, _, _ => none
def setAll (l : List Value) (i : Nat) : List Value → List Value
  | [] => l
  | v :: vs => setAll (l.set i v) (i + 1) vs
def oneL : List Value → Bool
  | [] => true
  | v :: vs => v.oneCell' && oneL vs
def wrt : Option SB → Nat → List Value → Option SB
  | some (.cells c m true), i, vs => if i + vs.length ≤ c.length ∧ oneL vs = true then some (.cells (setAll c i vs) m true) else none
  | some (.flat c m true), i, vs => if i + vs.length ≤ c.length ∧ oneL vs = true then (if leafL vs = true then some (.flat (setAll c i vs) m true) else some (.cells (setAll c i vs) m true)) else none
  | _, _, _ => none
def mk (cs : List Value) : SB := if leafL cs = true then .flat cs cs.length true else .cells cs cs.length true

/-! ### Numbers -/
def iand (k : IntKind) (a b : Int) : Int := k.wrap (BitVec.ofInt k.bits a &&& BitVec.ofInt k.bits b).toNat
def ior (k : IntKind) (a b : Int) : Int := k.wrap (BitVec.ofInt k.bits a ||| BitVec.ofInt k.bits b).toNat
def ixor (k : IntKind) (a b : Int) : Int := k.wrap (BitVec.ofInt k.bits a ^^^ BitVec.ofInt k.bits b).toNat
def iandNot (k : IntKind) (a b : Int) : Int := k.wrap (BitVec.ofInt k.bits a &&& ~~~ (BitVec.ofInt k.bits b)).toNat
def ishl (k : IntKind) (a b : Int) : Int := k.wrap (a * 2 ^ (min b.toNat k.bits))
def ishr (k : IntKind) (a b : Int) : Int := a.fdiv (2 ^ (min b.toNat k.bits))
/-- What an operator on numbers asks, and gives. -/
def binv : BinOp → Value → Value → (Value → Prop) → Prop
  | .shl, .int k a, .int _ b, K => 0 ≤ b ∧ K (.int k (ishl k a b))
  | .shr, .int k a, .int _ b, K => 0 ≤ b ∧ K (.int k (ishr k a b))
  | .add, .int k a, .int k' b, K => k = k' ∧ K (.int k (k.wrap (a + b)))
  | .sub, .int k a, .int k' b, K => k = k' ∧ K (.int k (k.wrap (a - b)))
  | .mul, .int k a, .int k' b, K => k = k' ∧ K (.int k (k.wrap (a * b)))
  | .quo, .int k a, .int k' b, K => k = k' ∧ b ≠ 0 ∧ K (.int k (k.wrap (a.tdiv b)))
  | .rem, .int k a, .int k' b, K => k = k' ∧ b ≠ 0 ∧ K (.int k (a.tmod b))
  | .and, .int k a, .int k' b, K => k = k' ∧ K (.int k (iand k a b))
  | .or, .int k a, .int k' b, K => k = k' ∧ K (.int k (ior k a b))
  | .xor, .int k a, .int k' b, K => k = k' ∧ K (.int k (ixor k a b))
  | .andNot, .int k a, .int k' b, K => k = k' ∧ K (.int k (iandNot k a b))
  | .eql, .int k a, .int k' b, K => k = k' ∧ K (.bool (decide (a = b)))
  | .neq, .int k a, .int k' b, K => k = k' ∧ K (.bool (!decide (a = b)))
  | .lss, .int k a, .int k' b, K => k = k' ∧ K (.bool (decide (a < b)))
  | .leq, .int k a, .int k' b, K => k = k' ∧ K (.bool (decide (a ≤ b)))
  | .gtr, .int k a, .int k' b, K => k = k' ∧ K (.bool (decide (b < a)))
  | .geq, .int k a, .int k' b, K => k = k' ∧ K (.bool (decide (b ≤ a)))
  | .eql, .string a, .string b, K => K (.bool (decide (a.toList = b.toList)))
  | .neq, .string a, .string b, K => K (.bool (!decide (a.toList = b.toList)))
  | _, _, _, _ => False

/-! ### Instructions -/
inductive I where
  | mov (d : Nat) (x : Operand)
  | pick (d : Nat) (c x y : Operand)
  | bin (d : Nat) (op : BinOp) (t : TypeId) (x y : Operand)
  | beq (d : Nat) (ne : Bool) (x y : Operand)
  | isnil (d : Nat) (ne : Bool) (x : Operand) (sl : Bool)
  | not (d : Nat) (x : Operand)
  | neg (d : Nat) (x : Operand)
  | conv (d : Nat) (k : IntKind) (x : Operand)
  | nilc (d : Nat) (x : Operand)
  | fld (d : Nat) (x : Operand) (off : Nat)
  | aidx (d : Nat) (x i : Operand) (n sz : Nat)
  | sidx (d : Nat) (x i : Operand) (sz : Nat)
  | ld (d : Nat) (x : Operand)
  | ldn (d : Nat) (x : Operand) (n : Nat)
  | fldv (d : Nat) (x : Operand) (off : Nat) (n : Option Nat)
  | slc (d : Nat) (x : Operand) (lo hi mx : Option Operand) (sz : Nat)
  | len (d : Nat) (x : Operand) (sl : Bool)
  | cap (d : Nat) (x : Operand)
  | ext (d : Nat) (x : Operand) (i : Nat)
  | bld (d : Nat) (zero : List Value) (parts : List (Nat × Nat × Operand))
  | st (x y : Operand) (n : Nat)
  | box (d : Nat) (x : Operand)
  | new (d : Nat) (zero : List Value)
  | bsl (d : Nat) (len sz : Nat) (zero : List Value) (parts : List (Nat × Nat × Operand))
  | call (d : Option Nat) (f : FuncId) (args : List Operand)
  | callv (d : Option Nat) (x : Operand) (args : List Operand)
  | hard (d : Option Nat) (o : Oper)
def I.dst : I → Option Nat
  | .mov d _ | .pick d _ _ _ | .bin d _ _ _ _ | .beq d _ _ _ | .isnil d _ _ _ | .not d _ | .neg d _ | .conv d _ _ | .nilc d _ | .fld d _ _ | .aidx d _ _ _ _ | .sidx d _ _ _
  | .ld d _ | .ldn d _ _ | .fldv d _ _ _ | .slc d _ _ _ _ _ | .len d _ _ | .cap d _ | .ext d _ _ | .bld d _ _ | .box d _ | .new d _ | .bsl d _ _ _ _ => some d
  | .st _ _ _ => none
  | .call d _ _ => d
  | .callv d _ _ => d
  | .hard d _ => d
/-- An operand that is a number, or what stands for it. -/
def ixv (t : Env) : Option Operand → Nat → (Nat → Prop) → Prop
  | none, m, K => K m
  | some x, _, K => match oe t x with
    | .int _ i => 0 ≤ i ∧ K i.toNat
    | _ => False
def fills (t : Env) : List Value → List (Nat × Nat × Operand) → (List Value → Prop) → Prop
  | l, [], K => K l
  | l, (off, sz, x) :: ps, K => known (oe t x) = true ∧ (oe t x).cells.toList.length = sz ∧ off + sz ≤ l.length ∧ fills t (setAll l off (oe t x).cells.toList) ps K
/-- The instructions that leave the memory alone. -/
def stepP (GL : List (Nat × List Value)) (H : List SB) (t : Env) : I → (Env → Prop) → Prop
  | .mov d x, K => K (put t d (oe t x))
  | .pick d c x y, K => match oe t c with
    | .bool b => br b (K (put t d (oe t x))) (K (put t d (oe t y)))
    | _ => False
  | .bin d op _ x y, K => binv op (oe t x) (oe t y) fun v => K (put t d v)
  | .beq d ne x y, K => match oe t x, oe t y with
    | .bool a, .bool b => K (put t d (.bool (if ne then !decide (a = b) else decide (a = b))))
    | _, _ => False
  | .isnil d ne x sl, K => match sl, oe t x with
    | false, .pointer a => K (put t d (.bool (if ne then a.isSome else a.isNone)))
    | true, .slice a _ _ => K (put t d (.bool (if ne then a.isSome else a.isNone)))
    | _, _ => False
  | .not d x, K => match oe t x with
    | .bool b => K (put t d (.bool (!b)))
    | _ => False
  | .neg d x, K => match oe t x with
    | .int k n => K (put t d (.int k (k.wrap (0 - n))))
    | _ => False
  | .conv d k x, K => match oe t x with
    | .int _ n => K (put t d (.int k (k.wrap n)))
    | _ => False
  | .nilc d x, K => match oe t x with
    | .pointer (some a) => K (put t d (.pointer (some a)))
    | .func (.func f) a b => K (put t d (.func (.func f) a b))
    | _ => False
  | .fld d x off, K => match oe t x with
    | .pointer (some a) => K (put t d (.pointer (some ⟨a.block, a.off + off, none⟩)))
    | _ => False
  | .aidx d x i n sz, K => match oe t x, oe t i with
    | .pointer (some a), .int _ j => (0 ≤ j ∧ j < n) ∧ K (put t d (.pointer (some ⟨a.block, a.off + j.toNat * sz, none⟩)))
    | _, _ => False
  | .sidx d x i sz, K => match oe t x, oe t i with
    | .slice (some a) n _, .int _ j => (0 ≤ j ∧ j < n) ∧ K (put t d (.pointer (some ⟨a.block, a.off + j.toNat * sz, none⟩)))
    | _, _ => False
  | .ld d x, K => match oe t x with
    | .pointer (some a) => (match rd (look GL H a.block) a.off with
      | some v => K (put t d v)
      | none => False)
    | _ => False
  | .ldn d x n, K => match oe t x with
    | .pointer (some a) => (match rdn (look GL H a.block) a.off n with
      | some l => K (put t d (.agg ⟨l⟩))
      | none => False)
    | _ => False
  | .fldv d x off n, K => match oe t x with
    | .agg ⟨l⟩ => (match n with
      | none => (match l[off]? with
        | some v => K (put t d v)
        | none => False)
      | some n => K (put t d (.agg ⟨(l.drop off).take n⟩)))
    | _ => False
  | .slc d x lo hi mx sz, K => match oe t x with
    | .slice a n c => ixv t mx c fun m => m ≤ c ∧ ixv t hi n fun h => h ≤ m ∧ ixv t lo 0 fun l => l ≤ h ∧
        K (put t d (.slice (if m = l then a else a.map fun a => ⟨a.block, a.off + l * sz, none⟩) (h - l) (m - l)))
    | _ => False
  | .len d x sl, K => match sl, oe t x with
    | true, .slice _ n _ => K (put t d (.int .i64 n))
    | false, .string s => K (put t d (.int .i64 s.size))
    | _, _ => False
  | .cap d x, K => match oe t x with
    | .slice _ _ c => K (put t d (.int .i64 c))
    | _ => False
  | .ext d x i, K => match oe t x with
    | .tuple ⟨l⟩ => (match l[i]? with
      | some v => K (put t d v)
      | none => False)
    | _ => False
  | .bld d zero parts, K => fills t zero parts fun l => K (put t d (.agg ⟨l⟩))
  | _, _ => False
/-- The instructions that write, or make blocks. -/
def stepE (GL : List (Nat × List Value)) (H : List SB) (t : Env) : I → (Env → List SB → Prop) → Prop
  | .st x y n, K => match oe t x with
    | .pointer (some a) => known (oe t y) = true ∧ (oe t y).cells.toList.length = n ∧ (match wrt (look GL H a.block) a.off (oe t y).cells.toList with
      | some o => K t (H.set a.block o)
      | none => False)
    | _ => False
  | .box d x, K => known (oe t x) = true ∧ H.length < BAD ∧ K (put t d (.pointer (some ⟨H.length, 0, none⟩))) (H ++ [mk (oe t x).cells.toList])
  | .new d zero, K => H.length < BAD ∧ K (put t d (.pointer (some ⟨H.length, 0, none⟩))) (H ++ [.flat zero zero.length true])
  | .bsl d len sz zero parts, K => H.length < BAD ∧ fills t zero parts fun l => K (put t d (.slice (some ⟨H.length, 0, none⟩) len len)) (H ++ [mk l])
  | _, _ => False
end Go.SX
