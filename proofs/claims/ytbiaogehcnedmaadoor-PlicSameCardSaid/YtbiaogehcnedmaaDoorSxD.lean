/-
  The instruction of an operation, and why the instruction tells what the operation does: the operations that leave the memory alone.
-/
import Derived.Test.YtbiaogehcnedmaaDoorSxC
set_option linter.unusedVariables false
set_option linter.unusedSimpArgs false
namespace Go.SX
open Go

/-! ### One number, one block -/
theorem AR.unique {ρ : Ren} {a x y : Addr} (h : AR ρ a x) (h' : AR ρ a y) : x = y := by
  obtain ⟨p, h1, h2, h3⟩ := h
  obtain ⟨q, k1, k2, k3⟩ := h'
  rw [h1] at k1; cases k1; rw [h3, k3]
mutual
theorem VR.unique {ρ : Ren} : ∀ (v x y : Value), VR ρ v x → VR ρ v y → x = y
  | .pointer (some a), x, y, h, h' => by simp only [VR] at *; obtain ⟨b, h1, h2⟩ := h; obtain ⟨c, k1, k2⟩ := h'; rw [h2, k2, h1.unique k1]
  | .slice (some a) n c, x, y, h, h' => by simp only [VR] at *; obtain ⟨b, h1, h2⟩ := h; obtain ⟨c, k1, k2⟩ := h'; rw [h2, k2, h1.unique k1]
  | .map (some r), x, y, h, h' => by simp only [VR] at *; obtain ⟨b, h1, h2⟩ := h; obtain ⟨c, k1, k2⟩ := h'; rw [h1] at k1; cases k1; rw [h2, k2]
  | .agg ⟨l⟩, x, y, h, h' => by simp only [VR, VRa] at *; obtain ⟨b, h1, h2⟩ := h; obtain ⟨c, k1, k2⟩ := h'; rw [h2, k2, VRl.unique l b c h1 k1]
  | .tuple ⟨l⟩, x, y, h, h' => by simp only [VR, VRa] at *; obtain ⟨b, h1, h2⟩ := h; obtain ⟨c, k1, k2⟩ := h'; rw [h2, k2, VRl.unique l b c h1 k1]
  | .func (.func f) ⟨l⟩ ⟨m⟩, x, y, h, h' => by
    simp only [VR, VRa] at *; obtain ⟨a, b, h1, h2, h3⟩ := h; obtain ⟨c, d, k1, k2, k3⟩ := h'
    rw [h3, k3, VRl.unique l a c h1 k1, VRl.unique m b d h2 k2]
  | .func (.yield l) a b, x, y, h, h' => by simp only [VR] at *; obtain ⟨b, h1, h2⟩ := h; obtain ⟨c, k1, k2⟩ := h'; rw [h1] at k1; cases k1; rw [h2, k2]
  | .bool b, x, y, h, h' => by simp only [VR] at *; rw [h, h']
  | .int k n, x, y, h, h' => by simp only [VR] at *; rw [h, h']
  | .string s, x, y, h, h' => by simp only [VR] at *; rw [h, h']
  | .pointer none, x, y, h, h' => by simp only [VR] at *; rw [h, h']
  | .slice none n c, x, y, h, h' => by simp only [VR] at *; rw [h, h']
  | .map none, x, y, h, h' => by simp only [VR] at *; rw [h, h']
  | .nilFunc, x, y, h, h' => by simp only [VR] at *; rw [h, h']
  | .nilIface, x, y, h, h' => by simp only [VR] at *; rw [h, h']
  | .float k n, x, y, h, _ => by simp only [VR] at h
  | .complex k a b, x, y, h, _ => by simp only [VR] at h
  | .chan r, x, y, h, _ => by simp only [VR] at h
  | .iface t v, x, y, h, _ => by simp only [VR] at h
  | .func (.method n) a b, x, y, h, _ => by simp only [VR] at h
  | .func (.methodOf t n) a b, x, y, h, _ => by simp only [VR] at h
  | .func (.via t p f q) a b, x, y, h, _ => by simp only [VR] at h
theorem VRl.unique {ρ : Ren} : ∀ (v x y : List Value), VRl ρ v x → VRl ρ v y → x = y
  | [], [], [], _, _ => rfl
  | v :: vs, x :: xs, y :: ys, h, h' => by simp only [VRl] at *; rw [VR.unique v x y h.1 h'.1, VRl.unique vs xs ys h.2 h'.2]
  | [], x :: xs, _, h, _ => by simp only [VRl] at h
  | [], [], y :: ys, _, h => by simp only [VRl] at h
  | v :: vs, [], _, h, _ => by simp only [VRl] at h
  | v :: vs, x :: xs, [], _, h => by simp only [VRl] at h
end

/-! ### Environments and frames -/
structure Slots (N : Nat) (ρ : Ren) (t : Env) (a : Act) : Prop where
  size : a.tmps.size = N
  «at» : ∀ k, known (get t k) = true → ∃ x, a.tmps[k]? = some x ∧ VR ρ (get t k) x
theorem Slots.mono {N : Nat} {ρ : Ren} {t : Env} {a : Act} (h : Slots N ρ t a) (e : Ren) : Slots N (ρ ++ e) t a :=
  ⟨h.size, fun k hk => let ⟨x, h1, h2⟩ := h.at k hk; ⟨x, h1, h2.mono e⟩⟩
theorem Slots.put {N : Nat} {ρ : Ren} {t : Env} {a : Act} (h : Slots N ρ t a) {d : Nat} (hd : d < N) {v x : Value} (hv : known v = true → VR ρ v x) :
    Slots N ρ (put t d v) (a.put (some d) x) := by
  refine ⟨by simp [Act.put, h.size], fun k hk => ?_⟩
  simp only [SX.put, get] at *
  by_cases hdk : d = k
  · rw [if_pos hdk] at *
    subst hdk
    exact ⟨x, by simp [Act.put, h.size, hd], hv hk⟩
  · rw [if_neg hdk] at *
    obtain ⟨y, h1, h2⟩ := h.at k hk
    exact ⟨y, by simp [Act.put, hdk, h1], h2⟩
theorem Slots.keep {N : Nat} {ρ : Ren} {t : Env} {a : Act} (h : Slots N ρ t a) (ks : List Nat) : Slots N ρ (keep t ks) a := by
  refine ⟨h.size, fun k hk => ?_⟩
  have : ∀ ks, known (get (SX.keep t ks) k) = true → get (SX.keep t ks) k = get t k := by
    intro ks
    induction ks with
    | nil => intro hk; simp [SX.keep, get, known] at hk
    | cons j js ih =>
      intro hk
      simp only [SX.keep, get] at *
      by_cases hj : j = k
      · rw [if_pos hj]; rw [hj]
      · rw [if_neg hj] at *; exact ih hk
  rw [this ks hk] at *
  exact h.at k hk
/-- Operands that an environment can tell. -/
def okx : Operand → Bool
  | .const v => leaf v
  | _ => true
def okxo : Option Operand → Bool
  | none => true
  | some x => okx x
theorem Slots.eval {N : Nat} {ρ : Ren} {t : Env} {a : Act} (h : Slots N ρ t a) {x : Operand} (hx : okx x = true) (hk : known (oe t x) = true) : VR ρ (oe t x) (a.eval x) := by
  cases x with
  | tmp n =>
    obtain ⟨y, h1, h2⟩ := h.at n hk
    have : a.eval (.tmp n) = y := by simp [Act.eval, Array.getD_eq_getD_getElem?, h1]
    rw [this]; exact h2
  | const v => exact VR.leaf v hx
  | global g => simp only [oe, VR, Act.eval]; exact ⟨⟨g, 0, none⟩, ⟨(g, 0), by simp [Ren.at?], rfl, by simp⟩, rfl⟩
  | func f => simp only [oe, VR, VRa, VRl, Act.eval]; exact ⟨[], [], by simp [VRl], by simp [VRl], rfl⟩

/-! ### The instruction of an operation -/
def tsize (P : Program) (t : TypeId) : Option Nat := (P.info? t).map (·.size)
def tzero (P : Program) (t : TypeId) : Option (List Value) := match (P.info? t).bind (·.zero) with
  | some v => if leafL v.cells.toList then some v.cells.toList else none
  | none => none
def partsOf (places : List (Nat × Nat)) : List (Nat × Operand) → Option (List (Nat × Nat × Operand))
  | [] => some []
  | (i, x) :: ps => match places[i]?, partsOf places ps with
    | some (o, s), some r => if okx x then some ((o, s, x) :: r) else none
    | _, _ => none
def compB (P : Program) (op : BinOp) (t : TypeId) (x y : Operand) (d : Nat) : Option I :=
  match op, y, P.underlying t with
  | .eql, .const (.pointer none), some (.pointer _) => some (.isnil d false x false)
  | .neq, .const (.pointer none), some (.pointer _) => some (.isnil d true x false)
  | .eql, .const (.slice none 0 0), some (.slice _) => some (.isnil d false x true)
  | .neq, .const (.slice none 0 0), some (.slice _) => some (.isnil d true x true)
  | .eql, y, some .bool => some (.beq d false x y)
  | .neq, y, some .bool => some (.beq d true x y)
  | op, y, some (.int _) => some (.bin d op t x y)
  | op, y, some .string => some (.bin d op t x y)
  | _, _, _ => none
def aggT (P : Program) (t : TypeId) : Bool := match P.underlying t with
  | some (.struct _) => true
  | some (.array _ _) => true
  | _ => false
def compO (P : Program) (o : Oper) : Option I :=
  match o.op, o.dst with
  | .move x, some d | .assign x, some d => if okx x then some (.mov d x) else none
  | .pick c x y, some d => if okx c && okx x && okx y then some (.pick d c x y) else none
  | .binOp op t x y _, some d => if aggT P t then some (.hard (some d) o) else if okx x && okx y then compB P op t x y d else none
  | .unOp .not _ x, some d => if okx x then some (.not d x) else none
  | .unOp .neg _ x, some d => if okx x then some (.neg d x) else none
  | .convert s e x, some d => match P.underlying s, P.underlying e with
    | some (.int _), some (.int k) => if okx x then some (.conv d k x) else none
    | _, _ => some (.hard (some d) o)
  | .nilCheck x, some d => if okx x then some (.nilc d x) else none
  | .fieldAddr s x f, some d => match P.underlying s with
    | some (.struct fs) => (match fs[f]? with
      | some fd => (match tsize P fd.type with
        | some n => if okx x && n != 0 then some (.fld d x fd.offset) else none
        | none => none)
      | none => none)
    | _ => none
  | .indexAddr t x i, some d => match P.underlying t with
    | some (.array n e) => (match tsize P e with
      | some sz => if okx x && okx i then some (.aidx d x i n sz) else none
      | none => none)
    | some (.slice e) => (match tsize P e with
      | some sz => if okx x && okx i then some (.sidx d x i sz) else none
      | none => none)
    | _ => none
  | .load t x, some d => match P.underlying t, tsize P t with
    | some (.struct _), some n | some (.array _ _), some n => if okx x then some (.ldn d x n) else none
    | some _, some _ => if okx x then some (.ld d x) else none
    | _, _ => none
  | .store t x y, none => match tsize P t with
    | some n => if okx x && okx y then some (.st x y n) else none
    | none => none
  | .field t x f, some d => match P.underlying t with
    | some (.struct fs) => (match fs[f]? with
      | some fd => (match P.underlying fd.type, tsize P fd.type with
        | some (.struct _), some n | some (.array _ _), some n => if okx x then some (.fldv d x fd.offset (some n)) else none
        | some _, some _ => if okx x then some (.fldv d x fd.offset none) else none
        | _, _ => none)
      | none => none)
    | _ => none
  | .slice t x lo hi mx, some d => match P.underlying t with
    | some (.slice e) => (match tsize P e with
      | some sz => if okx x && okxo lo && okxo hi && okxo mx && (mx.isNone || hi.isSome) then some (.slc d x lo hi mx sz) else none
      | none => none)
    | _ => some (.hard (some d) o)
  | .call { callee := .builtin .len, args := ⟨[x]⟩, argTypes := ⟨[t]⟩ }, some d => match P.underlying t with
    | some (.slice _) => if okx x then some (.len d x true) else none
    | some .string => if okx x then some (.len d x false) else none
    | _ => some (.hard (some d) o)
  | .call { callee := .builtin .cap, args := ⟨[x]⟩, argTypes := ⟨[t]⟩ }, some d => match P.underlying t with
    | some (.slice _) => if okx x then some (.cap d x) else none
    | _ => some (.hard (some d) o)
  | .extract x i, some d => if okx x then some (.ext d x i) else none
  | .build t parts, some d => match P.underlying t, tzero P t with
    | some (.struct fs), some z => (match partsOf (fs.toList.map fun f => (f.offset, (tsize P f.type).getD 0)) parts.toList with
      | some ps => if fs.toList.all fun f => (tsize P f.type).isSome then some (.bld d z ps) else none
      | none => none)
    | _, _ => some (.hard (some d) o)
  | .box _ x, some d => if okx x then some (.box d x) else none
  | .alloc t, some d => match tzero P t with
    | some z => some (.new d z)
    | none => none
  | .buildSlice t n parts, some d => match P.underlying t with
    | some (.slice e) => (match tsize P e with
      | some sz => (match (if n * sz = 0 then some [] else tzero P e), partsOf ((List.range n).map fun i => (i * sz, sz)) parts.toList with
        | some z, some ps => if n * sz ≤ 16777216 && (n * sz == 0 || z.length == sz) then some (.bsl d n sz ((List.replicate n z).flatten) ps) else none
        | _, _ => none)
      | none => none)
    | _ => none
  | .call { callee := .value (.func f), args := args, argTypes := _ }, d => match P.funcs[f]? with
    | some fn => if fn.body.isSome && !(fn.name == "runtime.NumGoroutine") && args.toList.all okx then some (.call d f args.toList) else some (.hard d o)
    | none => none
  | .call { callee := .value x, args := args, argTypes := _ }, d => if okx x && args.toList.all okx then some (.callv d x args.toList) else none
  | _, d => some (.hard d o)
end Go.SX
