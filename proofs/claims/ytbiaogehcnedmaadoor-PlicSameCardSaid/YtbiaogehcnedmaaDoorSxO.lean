/-
  Rules by which 'simp only' computes what a function's instructions ask: from the head on, never into what follows.
-/
import Derived.Test.YtbiaogehcnedmaaDoorSxM
set_option linter.unusedVariables false
set_option linter.unusedSimpArgs false
namespace Go.SX
open Go

/-! ### Values, taken apart -/
/-- A mark: what is behind it is computed before what follows. -/
def nm {α : Sort _} (a : α) : α := a
theorem nm_eq {α : Sort _} (a : α) : nm a = a := (show nm a = a ∧ True from ⟨by unfold nm; exact Eq.refl a, trivial⟩).1
def ltv (v : Value) (K : Value → Prop) : Prop := K v
def ltE (t : Env) (K : Env → Prop) : Prop := K t
def ltH (H : List SB) (K : List SB → Prop) : Prop := K H
def ltl (l : List Value) (K : List Value → Prop) : Prop := K l
def ltn (n : Nat) (K : Nat → Prop) : Prop := K n
def asB : Value → (Bool → Prop) → Prop
  | .bool b, K => K b
  | _, _ => False
def asG (v : Value) (b : Bool) (K : Bool → Prop) : Prop := match gv v b with
  | some x => K x
  | none => False
def asI : Value → (IntKind → Int → Prop) → Prop
  | .int k i, K => K k i
  | _, _ => False
def asPt : Value → (Option Addr → Prop) → Prop
  | .pointer a, K => K a
  | _, _ => False
def asSl : Value → (Option Addr → Nat → Nat → Prop) → Prop
  | .slice a n c, K => K a n c
  | _, _ => False
def asSt : Value → (ByteArray → Prop) → Prop
  | .string s, K => K s
  | _, _ => False
def asAg : Value → (List Value → Prop) → Prop
  | .agg ⟨l⟩, K => K l
  | _, _ => False
def asTu : Value → (List Value → Prop) → Prop
  | .tuple ⟨l⟩, K => K l
  | _, _ => False
def asOA : Option Addr → (Addr → Prop) → Prop
  | some a, K => K a
  | none, _ => False
def asOV : Option Value → (Value → Prop) → Prop
  | some a, K => K a
  | none, _ => False
def asOL : Option (List Value) → (List Value → Prop) → Prop
  | some a, K => K a
  | none, _ => False
def asOS : Option SB → (SB → Prop) → Prop
  | some a, K => K a
  | none, _ => False
/-- Keeps 'simp' out of the argument that it speaks of. -/
inductive Tg {α : Sort _} : α → Type
  | mk (a : α) : Tg a
/-- A condition, and what follows. -/
def req (c p : Prop) (_ : Tg p := .mk p) : Prop := c ∧ p
/-- A branch. -/
def brS (b : Bool) (p q : Prop) (_ : Tg p := .mk p) (_ : Tg q := .mk q) : Prop := br b p q
theorem ltv_eq (v : Value) (K : Value → Prop) : ltv v K = K v := rfl
theorem ltE_eq (v : Env) (K : Env → Prop) : ltE v K = K v := rfl
theorem ltH_eq (v : List SB) (K : List SB → Prop) : ltH v K = K v := rfl
theorem ltl_eq (v : List Value) (K : List Value → Prop) : ltl v K = K v := rfl
theorem ltn_eq (v : Nat) (K : Nat → Prop) : ltn v K = K v := rfl
theorem asB_eq (b : Bool) (K : Bool → Prop) : asB (.bool b) K = K b := rfl
theorem asG_b (x b : Bool) (K : Bool → Prop) : asG (.bool x) b K = K (if b then x else !x) := rfl
theorem asG_u (b : Bool) (K : Bool → Prop) : asG undef b K = K false := rfl
theorem asG_congr {v v' : Value} {b : Bool} {K : Bool → Prop} (h : v = v') : asG v b K = asG v' b K := by rw [h]
theorem kn_undef : known undef = true := rfl
theorem asI_eq (k : IntKind) (i : Int) (K : IntKind → Int → Prop) : asI (.int k i) K = K k i := rfl
theorem asPt_eq (a : Option Addr) (K : Option Addr → Prop) : asPt (.pointer a) K = K a := rfl
theorem asSl_eq (a : Option Addr) (n c : Nat) (K : Option Addr → Nat → Nat → Prop) : asSl (.slice a n c) K = K a n c := rfl
theorem asSt_eq (s : ByteArray) (K : ByteArray → Prop) : asSt (.string s) K = K s := rfl
theorem asAg_eq (l : List Value) (K : List Value → Prop) : asAg (.agg ⟨l⟩) K = K l := rfl
theorem asTu_eq (l : List Value) (K : List Value → Prop) : asTu (.tuple ⟨l⟩) K = K l := rfl
theorem asOA_eq (a : Addr) (K : Addr → Prop) : asOA (some a) K = K a := rfl
theorem asOV_eq (a : Value) (K : Value → Prop) : asOV (some a) K = K a := rfl
theorem asOL_eq (a : List Value) (K : List Value → Prop) : asOL (some a) K = K a := rfl
theorem asOS_eq (a : SB) (K : SB → Prop) : asOS (some a) K = K a := rfl
theorem req_true (p : Prop) (g : Tg p) : req True p g = p := by simp [req]
theorem req_intro {c p : Prop} {g : Tg p} (h1 : c) (h2 : c → p) : req c p g := ⟨h1, h2 h1⟩
theorem brS_true (p q : Prop) (g : Tg p) (g' : Tg q) : brS true p q g g' = p := br_true p q
theorem brS_false (p q : Prop) (g : Tg p) (g' : Tg q) : brS false p q g g' = q := br_false p q
theorem brS_intro {b : Bool} {p q : Prop} {g : Tg p} {g' : Tg q} (h1 : b = true → p) (h2 : b = false → q) : brS b p q g g' := br_intro h1 h2
theorem ltv_congr {v v' : Value} {K : Value → Prop} (h : v = v') : ltv v K = ltv v' K := by rw [h]
theorem ltE_congr {v v' : Env} {K : Env → Prop} (h : v = v') : ltE v K = ltE v' K := by rw [h]
theorem ltH_congr {v v' : List SB} {K : List SB → Prop} (h : v = v') : ltH v K = ltH v' K := by rw [h]
theorem ltl_congr {v v' : List Value} {K : List Value → Prop} (h : v = v') : ltl v K = ltl v' K := by rw [h]
theorem ltn_congr {v v' : Nat} {K : Nat → Prop} (h : v = v') : ltn v K = ltn v' K := by rw [h]
theorem asB_congr {v v' : Value} {K : Bool → Prop} (h : v = v') : asB v K = asB v' K := by rw [h]
theorem asI_congr {v v' : Value} {K : IntKind → Int → Prop} (h : v = v') : asI v K = asI v' K := by rw [h]
theorem asPt_congr {v v' : Value} {K : Option Addr → Prop} (h : v = v') : asPt v K = asPt v' K := by rw [h]
theorem asSl_congr {v v' : Value} {K : Option Addr → Nat → Nat → Prop} (h : v = v') : asSl v K = asSl v' K := by rw [h]
theorem asSt_congr {v v' : Value} {K : ByteArray → Prop} (h : v = v') : asSt v K = asSt v' K := by rw [h]
theorem asAg_congr {v v' : Value} {K : List Value → Prop} (h : v = v') : asAg v K = asAg v' K := by rw [h]
theorem asTu_congr {v v' : Value} {K : List Value → Prop} (h : v = v') : asTu v K = asTu v' K := by rw [h]
theorem asOA_congr {v v' : Option Addr} {K : Addr → Prop} (h : v = v') : asOA v K = asOA v' K := by rw [h]
theorem asOV_congr {v v' : Option Value} {K : Value → Prop} (h : v = v') : asOV v K = asOV v' K := by rw [h]
theorem asOL_congr {v v' : Option (List Value)} {K : List Value → Prop} (h : v = v') : asOL v K = asOL v' K := by rw [h]
theorem asOS_congr {v v' : Option SB} {K : SB → Prop} (h : v = v') : asOS v K = asOS v' K := by rw [h]

/-- A value's cells. -/
def cl (v : Value) : List Value := v.cells.toList
/-! ### Values of one cell -/
section
variable {k : IntKind} {i : Int} {b : Bool} {s : ByteArray} {p a : Option Addr} {n c : Nat} {f : Fn} {x y : Array Value} {m : Option Nat} {l : List Value}
theorem kn_int : known (.int k i) = true := rfl
theorem ce_int : cl (Value.int k i) = [.int k i] := rfl
theorem oc_int : (Value.int k i).oneCell' = true := rfl
theorem kn_bool : known (.bool b) = true := rfl
theorem ce_bool : cl (Value.bool b) = [.bool b] := rfl
theorem oc_bool : (Value.bool b).oneCell' = true := rfl
theorem kn_string : known (.string s) = true := rfl
theorem ce_string : cl (Value.string s) = [.string s] := rfl
theorem oc_string : (Value.string s).oneCell' = true := rfl
theorem kn_pointer : known (.pointer p) = true := rfl
theorem ce_pointer : cl (Value.pointer p) = [.pointer p] := rfl
theorem oc_pointer : (Value.pointer p).oneCell' = true := rfl
theorem kn_slice : known (.slice a n c) = true := rfl
theorem ce_slice : cl (Value.slice a n c) = [.slice a n c] := rfl
theorem oc_slice : (Value.slice a n c).oneCell' = true := rfl
theorem kn_func : known (.func f x y) = true := rfl
theorem ce_func : cl (Value.func f x y) = [.func f x y] := rfl
theorem oc_func : (Value.func f x y).oneCell' = true := rfl
theorem kn_map : known (.map m) = true := rfl
theorem ce_map : cl (Value.map m) = [.map m] := rfl
theorem oc_map : (Value.map m).oneCell' = true := rfl
theorem kn_agg : known (.agg ⟨l⟩) = true := rfl
theorem ce_agg : cl (Value.agg ⟨l⟩) = l := rfl
theorem le_int : leaf (.int k i) = true := rfl
theorem le_bool : leaf (.bool b) = true := rfl
theorem le_string : leaf (.string s) = true := rfl
theorem le_pointer {a : Addr} : leaf (.pointer (some a)) = false := rfl
theorem le_pointer0 : leaf (.pointer none) = true := rfl
theorem le_slice {a : Addr} : leaf (.slice (some a) n c) = false := rfl
theorem le_slice0 : leaf (.slice none n c) = true := rfl
theorem if_ge {α : Type} {c : Prop} [Decidable c] (h : c) (a b : α) : (if c then a else b) = a := if_pos h
theorem castN (n : Nat) : ((no_index (OfNat.ofNat n) : Nat) : Int) = OfNat.ofNat n := rfl
theorem tup_0 : tup [] = .tuple ⟨[]⟩ := rfl
theorem tup_1 (v : Value) : tup [v] = v := rfl
theorem tup_2 (v v' : Value) (l : List Value) : tup (v :: v' :: l) = .tuple ⟨v :: v' :: l⟩ := rfl
end
/-- A call, its continuation out of 'simp''s reach. -/
def CallS (X : Cx) (P : Program) (f : FuncId) (vs : List Value) (H : List SB) (K : Value → List SB → Prop) (_ : Tg K := .mk K) : Prop := CallK X P f vs H K
def HardS (X : Cx) (N : Nat) (P : Program) (o : Oper) (t : Env) (H : List SB) (K : Env → List SB → Prop) (_ : Tg K := .mk K) : Prop := HardK X N P o t H K
section
variable {X : Cx} {N : Nat} {P : Program} {GL : List (Nat × List Value)} {H : List SB} {t : Env} {K : Env → Prop} {KH : Env → List SB → Prop} {Q : Exit → Env → List SB → Prop}
theorem LoopK_congr {F : Env → List SB → (Exit → Env → List SB → Prop) → Prop} {t t' : Env} {H H' : List SB} (h1 : t = t') (h2 : H = H') : LoopK X F t H Q = LoopK X F t' H' Q := by rw [h1, h2]

/-! ### Numbers -/
theorem binv_congr {op : BinOp} {x x' y y' : Value} {K : Value → Prop} (h1 : x = x') (h2 : y = y') : binv op x y K = binv op x' y' K := by rw [h1, h2]
theorem binv_shl {k k' : IntKind} {a b : Int} {K : Value → Prop} : binv .shl (.int k a) (.int k' b) K = req (nm (0 ≤ b)) (ltv (nm (.int k (ishl k a b))) K) := rfl
theorem binv_shr {k k' : IntKind} {a b : Int} {K : Value → Prop} : binv .shr (.int k a) (.int k' b) K = req (nm (0 ≤ b)) (ltv (nm (.int k (ishr k a b))) K) := rfl
theorem binv_add {k : IntKind} {a b : Int} {K : Value → Prop} : binv .add (.int k a) (.int k b) K = ltv (nm (.int k (k.wrap (a + b)))) K := by simp [binv, ltv, nm]
theorem binv_sub {k : IntKind} {a b : Int} {K : Value → Prop} : binv .sub (.int k a) (.int k b) K = ltv (nm (.int k (k.wrap (a - b)))) K := by simp [binv, ltv, nm]
theorem binv_mul {k : IntKind} {a b : Int} {K : Value → Prop} : binv .mul (.int k a) (.int k b) K = ltv (nm (.int k (k.wrap (a * b)))) K := by simp [binv, ltv, nm]
theorem binv_quo {k : IntKind} {a b : Int} {K : Value → Prop} : binv .quo (.int k a) (.int k b) K = req (nm (b ≠ 0)) (ltv (nm (.int k (k.wrap (a.tdiv b)))) K) := by simp [binv, ltv, req, nm]
theorem binv_rem {k : IntKind} {a b : Int} {K : Value → Prop} : binv .rem (.int k a) (.int k b) K = req (nm (b ≠ 0)) (ltv (nm (.int k (a.tmod b))) K) := by simp [binv, ltv, req, nm]
theorem binv_and {k : IntKind} {a b : Int} {K : Value → Prop} : binv .and (.int k a) (.int k b) K = ltv (nm (.int k (iand k a b))) K := by simp [binv, ltv, nm]
theorem binv_or {k : IntKind} {a b : Int} {K : Value → Prop} : binv .or (.int k a) (.int k b) K = ltv (nm (.int k (ior k a b))) K := by simp [binv, ltv, nm]
theorem binv_xor {k : IntKind} {a b : Int} {K : Value → Prop} : binv .xor (.int k a) (.int k b) K = ltv (nm (.int k (ixor k a b))) K := by simp [binv, ltv, nm]
theorem binv_andNot {k : IntKind} {a b : Int} {K : Value → Prop} : binv .andNot (.int k a) (.int k b) K = ltv (nm (.int k (iandNot k a b))) K := by simp [binv, ltv, nm]
theorem binv_eql {k : IntKind} {a b : Int} {K : Value → Prop} : binv .eql (.int k a) (.int k b) K = ltv (nm (.bool (decide (a = b)))) K := by simp [binv, ltv, nm]
theorem binv_neq {k : IntKind} {a b : Int} {K : Value → Prop} : binv .neq (.int k a) (.int k b) K = ltv (nm (.bool (!decide (a = b)))) K := by simp [binv, ltv, nm]
theorem binv_lss {k : IntKind} {a b : Int} {K : Value → Prop} : binv .lss (.int k a) (.int k b) K = ltv (nm (.bool (decide (a < b)))) K := by simp [binv, ltv, nm]
theorem binv_leq {k : IntKind} {a b : Int} {K : Value → Prop} : binv .leq (.int k a) (.int k b) K = ltv (nm (.bool (decide (a ≤ b)))) K := by simp [binv, ltv, nm]
theorem binv_gtr {k : IntKind} {a b : Int} {K : Value → Prop} : binv .gtr (.int k a) (.int k b) K = ltv (nm (.bool (decide (b < a)))) K := by simp [binv, ltv, nm]
theorem binv_geq {k : IntKind} {a b : Int} {K : Value → Prop} : binv .geq (.int k a) (.int k b) K = ltv (nm (.bool (decide (b ≤ a)))) K := by simp [binv, ltv, nm]
theorem binv_seql {a b : ByteArray} {K : Value → Prop} : binv .eql (.string a) (.string b) K = ltv (nm (.bool (decide (a.toList = b.toList)))) K := by simp [binv, ltv, nm]
theorem binv_sneq {a b : ByteArray} {K : Value → Prop} : binv .neq (.string a) (.string b) K = ltv (nm (.bool (!decide (a.toList = b.toList)))) K := by simp [binv, ltv, nm]

/-! ### Instructions -/
theorem P_mov {d x} : stepP GL H t (.mov d x) K = ltv (nm (oe t x)) fun v => K (put t d v) := rfl
theorem P_pick {d c x y} : stepP GL H t (.pick d c x y) K = asB (nm (oe t c)) fun b => brS (nm b) (ltv (nm (oe t x)) fun v => K (put t d v)) (ltv (nm (oe t y)) fun v => K (put t d v)) := by
  simp only [stepP]; cases oe t c <;> rfl
theorem P_bin {d op T x y} : stepP GL H t (.bin d op T x y) K = binv op (nm (oe t x)) (nm (oe t y)) fun v => K (put t d v) := rfl
theorem P_beq {d ne x y} : stepP GL H t (.beq d ne x y) K = asB (nm (oe t x)) fun a => asB (nm (oe t y)) fun b => ltv (nm (.bool (if ne then !decide (a = b) else decide (a = b)))) fun v => K (put t d v) := by
  simp only [stepP]; cases oe t x <;> simp only [asB, nm] <;> (cases oe t y <;> rfl)
theorem P_isnilp {d ne x} : stepP GL H t (.isnil d ne x false) K = asPt (nm (oe t x)) fun a => ltv (nm (.bool (if ne then a.isSome else a.isNone))) fun v => K (put t d v) := by
  simp only [stepP]; cases oe t x <;> rfl
theorem P_isnils {d ne x} : stepP GL H t (.isnil d ne x true) K = asSl (nm (oe t x)) fun a _ _ => ltv (nm (.bool (if ne then a.isSome else a.isNone))) fun v => K (put t d v) := by
  simp only [stepP]; cases oe t x <;> rfl
theorem P_not {d x} : stepP GL H t (.not d x) K = asB (nm (oe t x)) fun b => ltv (nm (.bool (!b))) fun v => K (put t d v) := by
  simp only [stepP]; cases oe t x <;> rfl
theorem P_neg {d x} : stepP GL H t (.neg d x) K = asI (nm (oe t x)) fun k n => ltv (nm (.int k (k.wrap (0 - n)))) fun v => K (put t d v) := by
  simp only [stepP]; cases oe t x <;> rfl
theorem P_conv {d k x} : stepP GL H t (.conv d k x) K = asI (nm (oe t x)) fun _ n => ltv (nm (.int k (k.wrap n))) fun v => K (put t d v) := by
  simp only [stepP]; cases oe t x <;> rfl
def nilcv : Value → (Value → Prop) → Prop
  | .pointer (some a), K => K (.pointer (some a))
  | .func (.func f) a b, K => K (.func (.func f) a b)
  | _, _ => False
theorem nilcv_congr {v v' : Value} {K : Value → Prop} (h : v = v') : nilcv v K = nilcv v' K := by rw [h]
theorem nilcv_p {a : Addr} {K : Value → Prop} : nilcv (.pointer (some a)) K = K (.pointer (some a)) := rfl
theorem nilcv_f {f : FuncId} {a b : Array Value} {K : Value → Prop} : nilcv (.func (.func f) a b) K = K (.func (.func f) a b) := rfl
theorem P_nilc {d x} : stepP GL H t (.nilc d x) K = nilcv (nm (oe t x)) fun v => K (put t d v) := by
  simp only [stepP]
  generalize oe t x = v
  cases v <;> try rfl
  · rename_i p; cases p <;> rfl
  · rename_i f a b; cases f <;> rfl
theorem P_fld {d x off} : stepP GL H t (.fld d x off) K = asPt (nm (oe t x)) fun p => asOA (nm p) fun a => ltv (nm (.pointer (some ⟨a.block, a.off + off, none⟩))) fun v => K (put t d v) := by
  simp only [stepP]; cases oe t x <;> first | rfl | (rename_i p; cases p <;> rfl)
theorem P_aidx {d x i n sz} : stepP GL H t (.aidx d x i n sz) K = asPt (nm (oe t x)) fun p => asOA (nm p) fun a => asI (nm (oe t i)) fun _ j => req (nm (0 ≤ j ∧ j < n)) (ltv (nm (.pointer (some ⟨a.block, a.off + j.toNat * sz, none⟩))) fun v => K (put t d v)) := by
  simp only [stepP]; cases oe t x <;> first | rfl | (rename_i p; cases p <;> first | rfl | (cases oe t i <;> rfl))
theorem P_sidx {d x i sz} : stepP GL H t (.sidx d x i sz) K = asSl (nm (oe t x)) fun p n _ => asI (nm (oe t i)) fun _ j => req (nm (0 ≤ j ∧ j < n)) (asOA (nm p) fun a => ltv (nm (.pointer (some ⟨a.block, a.off + j.toNat * sz, none⟩))) fun v => K (put t d v)) := by
  simp only [stepP]
  cases oe t x <;> try rfl
  rename_i p n c
  cases p <;> cases oe t i <;> first | rfl | simp [asSl, asI, asOA, req, ltv, nm]
theorem P_ld {d x} : stepP GL H t (.ld d x) K = asPt (nm (oe t x)) fun p => asOA (nm p) fun a => asOV (nm (rd (look GL H a.block) a.off)) fun v => K (put t d v) := by
  simp only [stepP]; cases oe t x <;> first | rfl | (rename_i p; cases p <;> first | rfl | (simp only [asPt, asOA, nm]; cases rd _ _ <;> rfl))
theorem P_ldn {d x n} : stepP GL H t (.ldn d x n) K = asPt (nm (oe t x)) fun p => asOA (nm p) fun a => asOL (nm (rdn (look GL H a.block) a.off n)) fun l => K (put t d (.agg ⟨l⟩)) := by
  simp only [stepP]; cases oe t x <;> first | rfl | (rename_i p; cases p <;> first | rfl | (simp only [asPt, asOA, nm]; cases rdn _ _ _ <;> rfl))
theorem P_fldv1 {d x off} : stepP GL H t (.fldv d x off none) K = asAg (nm (oe t x)) fun l => asOV (nm l[off]?) fun v => K (put t d v) := by
  simp only [stepP]
  cases oe t x <;> first | rfl | (rename_i l; obtain ⟨l⟩ := l; simp only [asAg, nm]; cases l[off]? <;> rfl)
theorem P_fldvn {d x off n} : stepP GL H t (.fldv d x off (some n)) K = asAg (nm (oe t x)) fun l => ltl (nm ((l.drop off).take n)) fun l => K (put t d (.agg ⟨l⟩)) := by
  simp only [stepP]
  cases oe t x <;> rfl
theorem I_none {m : Nat} {K : Nat → Prop} : ixv t none m K = ltn (nm m) K := rfl
theorem I_some {m : Nat} {x : Operand} {K : Nat → Prop} : ixv t (some x) m K = asI (nm (oe t x)) fun _ i => req (nm (0 ≤ i)) (ltn (nm i.toNat) K) := by
  simp only [ixv]; cases oe t x <;> rfl
theorem P_slc {d x lo hi mx sz} : stepP GL H t (.slc d x lo hi mx sz) K = asSl (nm (oe t x)) fun a n c => ixv t mx c fun m => req (nm (m ≤ c)) (ixv t hi n fun h => req (nm (h ≤ m)) (ixv t lo 0 fun l => req (nm (l ≤ h))
    (ltv (nm (.slice (if m = l then a else a.map fun a => ⟨a.block, a.off + l * sz, none⟩) (h - l) (m - l))) fun v => K (put t d v)))) := by
  simp only [stepP, req, nm]; cases oe t x <;> rfl
theorem P_lens {d x} : stepP GL H t (.len d x true) K = asSl (nm (oe t x)) fun _ n _ => ltv (nm (.int .i64 n)) fun v => K (put t d v) := by
  simp only [stepP]; cases oe t x <;> rfl
theorem P_lent {d x} : stepP GL H t (.len d x false) K = asSt (nm (oe t x)) fun s => ltv (nm (.int .i64 s.size)) fun v => K (put t d v) := by
  simp only [stepP]; cases oe t x <;> rfl
theorem P_cap {d x} : stepP GL H t (.cap d x) K = asSl (nm (oe t x)) fun _ _ c => ltv (nm (.int .i64 c)) fun v => K (put t d v) := by
  simp only [stepP]; cases oe t x <;> rfl
theorem P_ext {d x i} : stepP GL H t (.ext d x i) K = asTu (nm (oe t x)) fun l => asOV (nm l[i]?) fun v => K (put t d v) := by
  simp only [stepP]
  cases oe t x <;> first | rfl | (rename_i l; obtain ⟨l⟩ := l; simp only [asTu, nm]; cases l[i]? <;> rfl)
theorem fills_nil {l : List Value} {K : List Value → Prop} : fills t l [] K = ltl (nm l) K := rfl
theorem fills_cons {l : List Value} {o s : Nat} {x : Operand} {ps : List (Nat × Nat × Operand)} {K : List Value → Prop} : fills t l ((o, s, x) :: ps) K = ltv (nm (oe t x)) fun v => req (nm (known v = true)) (req (nm ((cl v).length = s)) (req (nm (o + s ≤ l.length))
    (ltl (nm (setAll l o (cl v))) fun l' => fills t l' ps K))) := rfl
theorem P_bld {d z ps} : stepP GL H t (.bld d z ps) K = fills t z ps fun l => K (put t d (.agg ⟨l⟩)) := rfl
theorem E_st {x y n} : stepE GL H t (.st x y n) KH = asPt (nm (oe t x)) fun p => asOA (nm p) fun a => ltv (nm (oe t y)) fun v => req (nm (known v = true)) (req (nm ((cl v).length = n)) (asOS (nm (wrt (look GL H a.block) a.off (cl v))) fun o => ltH (nm (H.set a.block o)) fun H' => KH t H')) := by
  simp only [stepE, cl]
  cases oe t x <;> first | rfl | (rename_i p; cases p <;> first | rfl | (simp only [asPt, asOA, ltv, req, asOS, ltH, nm]; cases wrt _ _ _ <;> rfl))
theorem E_box {d x} : stepE GL H t (.box d x) KH = ltv (nm (oe t x)) fun v => req (nm (known v = true)) (req (nm (H.length < BAD)) (ltH (nm (H ++ [mk (cl v)])) fun H' => ltv (nm (.pointer (some ⟨H.length, 0, none⟩))) fun p => KH (put t d p) H')) := rfl
theorem E_new {d z} : stepE GL H t (.new d z) KH = req (nm (H.length < BAD)) (ltH (nm (H ++ [.flat z z.length true])) fun H' => ltv (nm (.pointer (some ⟨H.length, 0, none⟩))) fun p => KH (put t d p) H') := rfl
theorem E_bsl {d n sz z ps} : stepE GL H t (.bsl d n sz z ps) KH = req (nm (H.length < BAD)) (fills t z ps fun l => ltH (nm (H ++ [mk l])) fun H' => ltv (nm (.slice (some ⟨H.length, 0, none⟩) n n)) fun p => KH (put t d p) H') := rfl

/-! ### Regions -/
theorem S_mov {d x} : step1 X N P t H KH (.mov d x) = stepP X.GL H t (.mov d x) fun t' => KH t' H := rfl
theorem S_pick {d c x y} : step1 X N P t H KH (.pick d c x y) = stepP X.GL H t (.pick d c x y) fun t' => KH t' H := rfl
theorem S_bin {d op T x y} : step1 X N P t H KH (.bin d op T x y) = stepP X.GL H t (.bin d op T x y) fun t' => KH t' H := rfl
theorem S_beq {d ne x y} : step1 X N P t H KH (.beq d ne x y) = stepP X.GL H t (.beq d ne x y) fun t' => KH t' H := rfl
theorem S_isnil {d ne x s} : step1 X N P t H KH (.isnil d ne x s) = stepP X.GL H t (.isnil d ne x s) fun t' => KH t' H := rfl
theorem S_not {d x} : step1 X N P t H KH (.not d x) = stepP X.GL H t (.not d x) fun t' => KH t' H := rfl
theorem S_neg {d x} : step1 X N P t H KH (.neg d x) = stepP X.GL H t (.neg d x) fun t' => KH t' H := rfl
theorem S_conv {d k x} : step1 X N P t H KH (.conv d k x) = stepP X.GL H t (.conv d k x) fun t' => KH t' H := rfl
theorem S_nilc {d x} : step1 X N P t H KH (.nilc d x) = stepP X.GL H t (.nilc d x) fun t' => KH t' H := rfl
theorem S_fld {d x o} : step1 X N P t H KH (.fld d x o) = stepP X.GL H t (.fld d x o) fun t' => KH t' H := rfl
theorem S_aidx {d x i n s} : step1 X N P t H KH (.aidx d x i n s) = stepP X.GL H t (.aidx d x i n s) fun t' => KH t' H := rfl
theorem S_sidx {d x i s} : step1 X N P t H KH (.sidx d x i s) = stepP X.GL H t (.sidx d x i s) fun t' => KH t' H := rfl
theorem S_ld {d x} : step1 X N P t H KH (.ld d x) = stepP X.GL H t (.ld d x) fun t' => KH t' H := rfl
theorem S_ldn {d x n} : step1 X N P t H KH (.ldn d x n) = stepP X.GL H t (.ldn d x n) fun t' => KH t' H := rfl
theorem S_fldv {d x o n} : step1 X N P t H KH (.fldv d x o n) = stepP X.GL H t (.fldv d x o n) fun t' => KH t' H := rfl
theorem S_slc {d x l h m s} : step1 X N P t H KH (.slc d x l h m s) = stepP X.GL H t (.slc d x l h m s) fun t' => KH t' H := rfl
theorem S_len {d x s} : step1 X N P t H KH (.len d x s) = stepP X.GL H t (.len d x s) fun t' => KH t' H := rfl
theorem S_cap {d x} : step1 X N P t H KH (.cap d x) = stepP X.GL H t (.cap d x) fun t' => KH t' H := rfl
theorem S_ext {d x i} : step1 X N P t H KH (.ext d x i) = stepP X.GL H t (.ext d x i) fun t' => KH t' H := rfl
theorem S_bld {d z p} : step1 X N P t H KH (.bld d z p) = stepP X.GL H t (.bld d z p) fun t' => KH t' H := rfl
theorem S_st {x y n} : step1 X N P t H KH (.st x y n) = stepE X.GL H t (.st x y n) KH := rfl
theorem S_box {d x} : step1 X N P t H KH (.box d x) = stepE X.GL H t (.box d x) KH := rfl
theorem S_new {d z} : step1 X N P t H KH (.new d z) = stepE X.GL H t (.new d z) KH := rfl
theorem S_bsl {d n s z p} : step1 X N P t H KH (.bsl d n s z p) = stepE X.GL H t (.bsl d n s z p) KH := rfl
theorem S_hard {d o} : step1 X N P t H KH (.hard d o) = HardK X N P o (nm t) (nm H) KH := rfl
theorem S_call {d f args} : step1 X N P t H KH (.call d f args) = req (nm (knownAll t args = true)) (CallS X P f (nm (vals t args)) (nm H) fun v H' => KH (putd t d v) H') := rfl
def callvv (X : Cx) (P : Program) (vs : List Value) (H : List SB) (K : Value → List SB → Prop) : Value → Prop
  | .func (.func f) ⟨a⟩ ⟨c⟩ => req (isFn P f) (CallS X P f (a ++ (vs ++ c)) H K)
  | _ => False
theorem callvv_eq {vs : List Value} {K : Value → List SB → Prop} {f a c} : callvv X P vs H K (.func (.func f) ⟨a⟩ ⟨c⟩) = req (nm (isFn P f)) (CallS X P f (nm (a ++ (vs ++ c))) (nm H) K) := rfl
theorem callvv_congr {vs vs' : List Value} {H' : List SB} {K : Value → List SB → Prop} {v v' : Value} (h1 : vs = vs') (h2 : H = H') (h3 : v = v') : callvv X P vs H K v = callvv X P vs' H' K v' := by rw [h1, h2, h3]
theorem S_callv {d x args} : step1 X N P t H KH (.callv d x args) = req (nm (knownAll t args = true)) (callvv X P (nm (vals t args)) (nm H) (fun v H' => KH (putd t d v) H') (nm (oe t x))) := by
  simp only [step1, req, callvv, nm]
  congr 1
theorem O_nil : evOps X N P [] t H KH = KH t H := rfl
theorem O_one {i r} : evOps X N P (⟨none, i⟩ :: r) t H KH = step1 X N P t H (fun t' H' => evOps X N P r t' H' KH) i := rfl
theorem O_grd {s b i r} : evOps X N P (⟨some (s, b), i⟩ :: r) t H KH = asG (nm (SX.get t s)) b fun x => brS (nm x) (step1 X N P t H (fun t' H' => evOps X N P r t' H' KH) i) (ltE (nm (skipd t i)) fun t' => evOps X N P r t' H KH) := by
  simp only [evOps, asG, nm]; cases gv (SX.get t s) b <;> rfl
theorem D_nil : evP X H [] t K = K t := rfl
theorem D_one {i r} : evP X H (⟨none, i⟩ :: r) t K = req (nm (isP i = true)) (stepP X.GL H t i fun t' => evP X H r t' K) := rfl
theorem D_grd {s b i r} : evP X H (⟨some (s, b), i⟩ :: r) t K = asG (nm (SX.get t s)) b fun x => brS (nm x) (req (nm (isP i = true)) (stepP X.GL H t i fun t' => evP X H r t' K)) (ltE (nm (skipd t i)) fun t' => evP X H r t' K) := by
  simp only [evP, req, nm, asG]; cases gv (SX.get t s) b <;> rfl
theorem L_done {M} : evL X N P M .done t H KH = KH t H := rfl
theorem L_take {M i r} : evL X N P M (.take ⟨none, i⟩ r) t H KH = req (nm (isP i = true)) (req (nm (frzI M t i)) (stepP X.GL H t i fun t' => evL X N P M r t' H KH)) := rfl
theorem L_takeg {M s b i r} : evL X N P M (.take ⟨some (s, b), i⟩ r) t H KH = asG (nm (SX.get t s)) b fun x => brS (nm x) (req (nm (isP i = true)) (req (nm (frzI M t i)) (stepP X.GL H t i fun t' => evL X N P M r t' H KH))) (ltE (nm (skipd t i)) fun t' => evL X N P M r t' H KH) := by
  simp only [evL, req, nm, asG]; cases gv (SX.get t s) b <;> rfl
theorem L_op {M i r} : evL X N P M (.op ⟨none, i⟩ r) t H KH = step1 X N P t H (fun t' H' => req (nm (agree H H' M)) (evL X N P M r t' H' KH)) i := rfl
theorem L_opg {M s b i r} : evL X N P M (.op ⟨some (s, b), i⟩ r) t H KH = asG (nm (SX.get t s)) b fun x => brS (nm x) (step1 X N P t H (fun t' H' => req (nm (agree H H' M)) (evL X N P M r t' H' KH)) i) (ltE (nm (skipd t i)) fun t' => evL X N P M r t' H KH) := by
  simp only [evL, req, nm, asG]; cases gv (SX.get t s) b <;> rfl
theorem L_both {M a b} : evL X N P M (.both a b) t H KH = req (nm (evL X N P M a t H KH)) (evL X N P M b t H KH) := rfl
theorem F_ld {M : List Nat} {d x} : frzI M t (.ld d x) = asPt (nm (oe t x)) fun p => asOA (nm p) fun a => (decide (GB ≤ a.block) || M.contains a.block) = true := by
  simp only [frzI]; cases oe t x <;> first | rfl | (rename_i p; cases p <;> rfl)
theorem F_ldn {M : List Nat} {d x n} : frzI M t (.ldn d x n) = asPt (nm (oe t x)) fun p => asOA (nm p) fun a => (decide (GB ≤ a.block) || M.contains a.block) = true := by
  simp only [frzI]; cases oe t x <;> first | rfl | (rename_i p; cases p <;> rfl)
theorem isP_mov {d x} : isP (.mov d x) = true := rfl
theorem F_mov {M : List Nat} {d x} : frzI M t (.mov d x) = True := rfl
theorem isP_pick {d c x y} : isP (.pick d c x y) = true := rfl
theorem F_pick {M : List Nat} {d c x y} : frzI M t (.pick d c x y) = True := rfl
theorem isP_bin {d o T x y} : isP (.bin d o T x y) = true := rfl
theorem F_bin {M : List Nat} {d o T x y} : frzI M t (.bin d o T x y) = True := rfl
theorem isP_beq {d n x y} : isP (.beq d n x y) = true := rfl
theorem F_beq {M : List Nat} {d n x y} : frzI M t (.beq d n x y) = True := rfl
theorem isP_isnil {d n x s} : isP (.isnil d n x s) = true := rfl
theorem F_isnil {M : List Nat} {d n x s} : frzI M t (.isnil d n x s) = True := rfl
theorem isP_not {d x} : isP (.not d x) = true := rfl
theorem F_not {M : List Nat} {d x} : frzI M t (.not d x) = True := rfl
theorem isP_neg {d x} : isP (.neg d x) = true := rfl
theorem F_neg {M : List Nat} {d x} : frzI M t (.neg d x) = True := rfl
theorem isP_conv {d k x} : isP (.conv d k x) = true := rfl
theorem F_conv {M : List Nat} {d k x} : frzI M t (.conv d k x) = True := rfl
theorem isP_nilc {d x} : isP (.nilc d x) = true := rfl
theorem F_nilc {M : List Nat} {d x} : frzI M t (.nilc d x) = True := rfl
theorem isP_fld {d x o} : isP (.fld d x o) = true := rfl
theorem F_fld {M : List Nat} {d x o} : frzI M t (.fld d x o) = True := rfl
theorem isP_aidx {d x i n s} : isP (.aidx d x i n s) = true := rfl
theorem F_aidx {M : List Nat} {d x i n s} : frzI M t (.aidx d x i n s) = True := rfl
theorem isP_sidx {d x i s} : isP (.sidx d x i s) = true := rfl
theorem F_sidx {M : List Nat} {d x i s} : frzI M t (.sidx d x i s) = True := rfl
theorem isP_ld {d x} : isP (.ld d x) = true := rfl
theorem isP_ldn {d x n} : isP (.ldn d x n) = true := rfl
theorem isP_fldv {d x o n} : isP (.fldv d x o n) = true := rfl
theorem F_fldv {M : List Nat} {d x o n} : frzI M t (.fldv d x o n) = True := rfl
theorem isP_slc {d x l h m s} : isP (.slc d x l h m s) = true := rfl
theorem F_slc {M : List Nat} {d x l h m s} : frzI M t (.slc d x l h m s) = True := rfl
theorem isP_len {d x s} : isP (.len d x s) = true := rfl
theorem F_len {M : List Nat} {d x s} : frzI M t (.len d x s) = True := rfl
theorem isP_cap {d x} : isP (.cap d x) = true := rfl
theorem F_cap {M : List Nat} {d x} : frzI M t (.cap d x) = True := rfl
theorem isP_ext {d x i} : isP (.ext d x i) = true := rfl
theorem F_ext {M : List Nat} {d x i} : frzI M t (.ext d x i) = True := rfl
theorem isP_bld {d z p} : isP (.bld d z p) = true := rfl
theorem F_bld {M : List Nat} {d z p} : frzI M t (.bld d z p) = True := rfl
theorem sk_mov {d x} : skipd t (.mov d x) = SX.put t d undef := rfl
theorem sk_pick {d c x y} : skipd t (.pick d c x y) = SX.put t d undef := rfl
theorem sk_bin {d o T x y} : skipd t (.bin d o T x y) = SX.put t d undef := rfl
theorem sk_beq {d n x y} : skipd t (.beq d n x y) = SX.put t d undef := rfl
theorem sk_isnil {d n x s} : skipd t (.isnil d n x s) = SX.put t d undef := rfl
theorem sk_not {d x} : skipd t (.not d x) = SX.put t d undef := rfl
theorem sk_neg {d x} : skipd t (.neg d x) = SX.put t d undef := rfl
theorem sk_conv {d k x} : skipd t (.conv d k x) = SX.put t d undef := rfl
theorem sk_nilc {d x} : skipd t (.nilc d x) = SX.put t d undef := rfl
theorem sk_fld {d x o} : skipd t (.fld d x o) = SX.put t d undef := rfl
theorem sk_aidx {d x i n s} : skipd t (.aidx d x i n s) = SX.put t d undef := rfl
theorem sk_sidx {d x i s} : skipd t (.sidx d x i s) = SX.put t d undef := rfl
theorem sk_ld {d x} : skipd t (.ld d x) = SX.put t d undef := rfl
theorem sk_ldn {d x n} : skipd t (.ldn d x n) = SX.put t d undef := rfl
theorem sk_fldv {d x o n} : skipd t (.fldv d x o n) = SX.put t d undef := rfl
theorem sk_slc {d x l h m s} : skipd t (.slc d x l h m s) = SX.put t d undef := rfl
theorem sk_len {d x s} : skipd t (.len d x s) = SX.put t d undef := rfl
theorem sk_cap {d x} : skipd t (.cap d x) = SX.put t d undef := rfl
theorem sk_ext {d x i} : skipd t (.ext d x i) = SX.put t d undef := rfl
theorem sk_bld {d z p} : skipd t (.bld d z p) = SX.put t d undef := rfl
theorem sk_box {d x} : skipd t (.box d x) = SX.put t d undef := rfl
theorem sk_new {d z} : skipd t (.new d z) = SX.put t d undef := rfl
theorem sk_bsl {d n s z p} : skipd t (.bsl d n s z p) = SX.put t d undef := rfl
theorem sk_st {x y n} : skipd t (.st x y n) = t := rfl
theorem sk_call {d f r} : skipd t (.call (some d) f r) = SX.put t d undef := rfl
theorem sk_call0 {f r} : skipd t (.call none f r) = t := rfl
theorem sk_callv {d x r} : skipd t (.callv (some d) x r) = SX.put t d undef := rfl
theorem sk_callv0 {x r} : skipd t (.callv none x r) = t := rfl
theorem sk_hard {d o} : skipd t (.hard (some d) o) = SX.put t d undef := rfl
theorem sk_hard0 {o} : skipd t (.hard none o) = t := rfl

/-! ### Code -/
/-- What follows an end of the first of two. -/
def thenQ (X : Cx) (N : Nat) (P : Program) (ks : Option (List Nat)) (b : IC) (Q : Exit → Env → List SB → Prop) : Exit → Env → List SB → Prop
  | .normal, t, H => ltE (keepo t ks) fun t' => ev X N P b t' H Q
  | e, t, H => Q e t H
def blockQ (id : Nat) (Q : Exit → Env → List SB → Prop) : Exit → Env → List SB → Prop
  | .exit id', t, H => if id' = id then Q .normal t H else Q (.exit id') t H
  | e, t, H => Q e t H
theorem C_skip : ev X N P .skip t H Q = Q .normal t H := rfl
theorem C_seq {a ks b} : ev X N P (.seq a ks b) t H Q = ev X N P a t H (thenQ X N P ks b Q) := by
  simp only [ev]; congr 1; funext e t H; cases e <;> rfl
theorem C_cut {a ks b} : ev X N P (.cut a ks b) t H Q = CutK X (ev X N P a t H) ks (ev X N P b) Q := rfl
theorem Q_cutr {ks J} : cutQ X ks J Q .ret t H = Q .ret t H := rfl
theorem Q_cute {ks J id} : cutQ X ks J Q (.exit id) t H = Q (.exit id) t H := rfl
theorem Q_cut {ks J} : cutQ X ks J Q .normal t H = ltE (nm (SX.keep t ks)) fun t' => RelK X t' H J := rfl
theorem cut_intro {F : (Exit → Env → List SB → Prop) → Prop} {ks : List Nat} {G : Env → List SB → (Exit → Env → List SB → Prop) → Prop} (J : Env → List SB → Prop) (h1 : F (cutQ X ks J Q)) (h2 : ∀ t H, J t H → G t H Q) : CutK X F ks G Q := ⟨J, h1, h2⟩
theorem C_reg {l} : ev X N P (.reg l) t H Q = evOps X N P l t H (Q .normal) := rfl
theorem C_draw {h l} : ev X N P (.draw h l) t H Q = evP X H h t fun t' => evOps X N P l t' H (Q .normal) := rfl
theorem C_mix0 {p} : ev X N P (.mix true p) t H Q = evL X N P [] p t H (Q .normal) := rfl
theorem C_mix1 {p} : ev X N P (.mix false p) t H Q = ∃ M, evL X N P M p t H (Q .normal) := rfl
theorem C_cond {c a b} : ev X N P (.cond c a b) t H Q = asB (nm (oe t c)) fun x => brS (nm x) (ev X N P a t H Q) (ev X N P b t H Q) := by
  simp only [ev]; cases oe t c <;> rfl
theorem C_block {id a} : ev X N P (.block id a) t H Q = ev X N P a t H (blockQ id Q) := by
  simp only [ev]; congr 1; funext e t H; cases e <;> rfl
theorem C_scope {a} : ev X N P (.scope a) t H Q = ev X N P a t H (scopeQ Q) := rfl
theorem Q_scope : scopeQ Q .normal t H = Q .normal t H := rfl
theorem Q_scoper : scopeQ Q .ret t H = Q .ret t H := rfl
theorem Q_scopee {id} : scopeQ Q (.exit id) t H = Q (.exit id) t H := rfl
theorem C_loop {ks a} : ev X N P (.loop ks a) t H Q = LoopK X (ev X N P a) (SX.keep t ks) H Q := rfl
theorem C_exit {id} : ev X N P (.exit id) t H Q = Q (.exit id) t H := rfl
theorem C_ret : ev X N P .ret t H Q = Q .ret t H := rfl
theorem Q_then {ks b} : thenQ X N P ks b Q .normal t H = ltE (nm (keepo t ks)) fun t' => ev X N P b t' H Q := rfl
theorem Q_thenr {ks b} : thenQ X N P ks b Q .ret t H = Q .ret t H := rfl
theorem Q_thene {ks b id} : thenQ X N P ks b Q (.exit id) t H = Q (.exit id) t H := rfl
theorem Q_block {id} : blockQ id Q .normal t H = Q .normal t H := rfl
theorem Q_blockr {id} : blockQ id Q .ret t H = Q .ret t H := rfl
theorem Q_blocke {id id'} : blockQ id Q (.exit id') t H = if id' = id then Q .normal t H else Q (.exit id') t H := rfl
theorem R_nil {K : List Value → Prop} : resK GL H t [] K = K [] := rfl
theorem R_t {k r} {K : List Value → Prop} : resK GL H t (.t k :: r) K = ltv (nm (SX.get t k)) fun v => req (nm (known v = true)) (resK GL H t r fun vs => K (v :: vs)) := rfl
theorem R_c1 {k r} {K : List Value → Prop} : resK GL H t (.c1 k :: r) K = asPt (nm (SX.get t k)) fun p => asOA (nm p) fun a => asOV (nm (rd (look GL H a.block) a.off)) fun v => resK GL H t r fun vs => K (v :: vs) := by
  simp only [resK]; cases SX.get t k <;> first | rfl | (rename_i p; cases p <;> first | rfl | (simp only [asPt, asOA, nm]; cases rd _ _ <;> rfl))
theorem R_cn {k n r} {K : List Value → Prop} : resK GL H t (.cn k n :: r) K = asPt (nm (SX.get t k)) fun p => asOA (nm p) fun a => asOL (nm (rdn (look GL H a.block) a.off n)) fun v => resK GL H t r fun vs => K (.agg ⟨v⟩ :: vs) := by
  simp only [resK]; cases SX.get t k <;> first | rfl | (rename_i p; cases p <;> first | rfl | (simp only [asPt, asOA, nm]; cases rdn _ _ _ <;> rfl))
theorem Q_fin {rv R} : finQ GL rv R .normal t H = resK GL H t rv fun vs => ltv (nm (tup vs)) fun v => R v H := rfl
theorem Q_finr {rv R} : finQ GL rv R .ret t H = resK GL H t rv fun vs => ltv (nm (tup vs)) fun v => R v H := rfl
end

/-! ### The rules, in one set -/
attribute [go_sem ↓] C_scope Q_scope Q_scoper Q_scopee P_mov P_pick P_bin P_beq P_isnilp P_isnils P_not P_neg P_conv P_nilc P_fld P_aidx P_sidx P_ld P_ldn P_fldv1 P_fldvn I_none I_some P_slc P_lens P_lent P_cap P_ext fills_nil fills_cons P_bld E_st E_box E_new E_bsl S_mov S_pick S_bin S_beq S_isnil S_not S_neg S_conv S_nilc S_fld S_aidx S_sidx S_ld S_ldn S_fldv S_slc S_len S_cap S_ext S_bld S_st S_box S_new S_bsl S_hard S_call S_callv O_nil O_one O_grd L_done L_take L_takeg L_op L_opg L_both F_ld F_ldn isP_mov F_mov isP_pick F_pick isP_bin F_bin isP_beq F_beq isP_isnil F_isnil isP_not F_not isP_neg F_neg isP_conv F_conv isP_nilc F_nilc isP_fld F_fld isP_aidx F_aidx isP_sidx F_sidx isP_ld isP_ldn isP_fldv F_fldv isP_slc F_slc isP_len F_len isP_cap F_cap isP_ext F_ext isP_bld F_bld C_skip C_seq C_cut C_draw D_nil D_one D_grd C_mix0 C_cond C_block C_loop C_exit C_ret Q_then Q_thenr Q_thene Q_block Q_blockr R_nil R_t R_c1 R_cn Q_fin Q_finr Q_blocke
attribute [go_sem] asG_b asG_u kn_undef Q_cut Q_cutr Q_cute C_reg ltv_eq ltE_eq ltH_eq ltl_eq ltn_eq asB_eq asI_eq asPt_eq asSl_eq asSt_eq asAg_eq asTu_eq asOA_eq asOV_eq asOL_eq asOS_eq binv_shl binv_shr binv_add binv_sub binv_mul binv_quo binv_rem binv_and binv_or binv_xor binv_andNot binv_eql binv_neq binv_lss binv_leq binv_gtr binv_geq binv_seql binv_sneq nilcv_p nilcv_f callvv_eq kn_int ce_int oc_int kn_bool ce_bool oc_bool kn_string ce_string oc_string kn_pointer ce_pointer oc_pointer kn_slice ce_slice oc_slice kn_func ce_func oc_func kn_map ce_map oc_map kn_agg ce_agg le_int le_bool le_string le_pointer le_pointer0 le_slice le_slice0 nm_eq req_true brS_true brS_false sk_mov sk_pick sk_bin sk_beq sk_isnil sk_not sk_neg sk_conv sk_nilc sk_fld sk_aidx sk_sidx sk_ld sk_ldn sk_fldv sk_slc sk_len sk_cap sk_ext sk_bld sk_box sk_new sk_bsl sk_st sk_call sk_call0 sk_callv sk_callv0 sk_hard sk_hard0 putd.eq_1 putd.eq_2 SX.get.eq_1 SX.get.eq_2 SX.put.eq_1 SX.keep.eq_1 SX.keep.eq_2 keepo.eq_1 keepo.eq_2 oe.eq_1 oe.eq_2 oe.eq_3 oe.eq_4 knownAll.eq_1 knownAll.eq_2 vals.eq_1 vals.eq_2 env0.eq_1 env0.eq_2 tup_0 tup_1 tup_2 SX.look.eq_1 lookG.eq_1 lookG.eq_2 rd.eq_1 rd.eq_2 rdn.eq_1 rdn.eq_2 wrt.eq_1 wrt.eq_2 setAll.eq_1 setAll.eq_2 oneL.eq_1 oneL.eq_2 leafL.eq_1 leafL.eq_2 agree.eq_1 agree.eq_2 GB.eq_1 BAD.eq_1 List.getElem?_cons_zero List.getElem?_cons_succ List.set_cons_zero List.set_cons_succ List.cons_append List.nil_append List.length_cons List.length_nil List.contains_cons List.contains_nil Bool.not_true Bool.not_false Bool.or_true Bool.true_or Bool.or_false Bool.false_or Bool.and_true Bool.true_and Bool.and_false Bool.false_and Bool.false_eq_true Bool.true_eq_false Option.isSome_some Option.isSome_none Option.isNone_some Option.isNone_none Option.map_some Option.map_none Nat.zero_add Nat.add_zero and_true true_and and_self false_and and_false eq_self Nat.le_refl Int.le_refl decide_true decide_false not_true_eq_false not_false_eq_true Nat.one_ne_zero Nat.zero_ne_one ne_eq castN Int.toNat_natCast Int.toNat_zero Nat.mul_one Nat.zero_mul Int.natCast_nonneg
attribute [congr] asG_congr ltv_congr ltE_congr ltH_congr ltl_congr ltn_congr asB_congr asI_congr asPt_congr asSl_congr asSt_congr asAg_congr asTu_congr asOA_congr asOV_congr asOL_congr asOS_congr LoopK_congr binv_congr nilcv_congr callvv_congr
end Go.SX
