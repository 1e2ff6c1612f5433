/-
  Why the instruction tells what the operation does: the operations that leave the memory alone.
-/
import Derived.Test.YtbiaogehcnedmaaDoorSxD
set_option linter.unusedVariables false
set_option linter.unusedSimpArgs false
namespace Go.SX
open Go

section
variable {X : Cx} {N : Nat} {P : Program} {ρ : Ren} {H : List SB} {t : Env} {a : Act} {K : Env → Prop}

/-- The operation yields one value, whatever world of this heap it meets, and leaves that world. -/
def PureAt (X : Cx) (N : Nat) (P : Program) (o : Oper) (ρ : Ren) (H : List SB) (a : Act) (K : Env → Prop) : Prop :=
  ∃ x t', K t' ∧ Slots N ρ t' (a.put o.dst x) ∧ ∀ w, Sat X w ρ H → (execOp a.eval o).run P w = .ok (.value x) w

theorem PureAt.of {o : Oper} {d : Nat} (hd : o.dst = some d) (hN : d < N) (hs : Slots N ρ t a) {v x : Value} (hk : K (put t d v)) (hv : known v = true → VR ρ v x)
    (hr : ∀ w, Sat X w ρ H → (execOp a.eval o).run P w = .ok (.value x) w) : PureAt X N P o ρ H a K :=
  ⟨x, put t d v, hk, by rw [hd]; exact hs.put hN hv, hr⟩

theorem PureAt.leaf {o : Oper} {d : Nat} (hd : o.dst = some d) (hN : d < N) (hs : Slots N ρ t a) {v : Value} (hl : leaf v = true) (hk : K (put t d v))
    (hr : ∀ w, Sat X w ρ H → (execOp a.eval o).run P w = .ok (.value v) w) : PureAt X N P o ρ H a K :=
  PureAt.of hd hN hs hk (fun _ => VR.leaf v hl) hr

theorem eval_of {x : Operand} {v : Value} (hs : Slots N ρ t a) (hx : okx x = true) (h : oe t x = v) (hk : known v = true) : VR ρ v (a.eval x) := by
  rw [← h]; exact hs.eval hx (by rw [h]; exact hk)
theorem eval_int {x : Operand} {k n} (hs : Slots N ρ t a) (hx : okx x = true) (h : oe t x = .int k n) : a.eval x = .int k n := by
  have := eval_of hs hx h rfl; simpa only [VR] using this
theorem eval_bool {x : Operand} {b} (hs : Slots N ρ t a) (hx : okx x = true) (h : oe t x = .bool b) : a.eval x = .bool b := by
  have := eval_of hs hx h rfl; simpa only [VR] using this
theorem eval_string {x : Operand} {b} (hs : Slots N ρ t a) (hx : okx x = true) (h : oe t x = .string b) : a.eval x = .string b := by
  have := eval_of hs hx h rfl; simpa only [VR] using this
theorem eval_ptr {x : Operand} {b} (hs : Slots N ρ t a) (hx : okx x = true) (h : oe t x = .pointer (some b)) : ∃ c, AR ρ b c ∧ a.eval x = .pointer (some c) := by
  have := eval_of hs hx h rfl; simpa only [VR] using this
theorem eval_agg {x : Operand} {l} (hs : Slots N ρ t a) (hx : okx x = true) (h : oe t x = .agg ⟨l⟩) : ∃ c, VRl ρ l c ∧ a.eval x = .agg c.toArray := by
  have := eval_of hs hx h rfl; simpa only [VR, VRa] using this

theorem pure_run {o : Oper} {x : Value} {w : World} (s : Sem Value) (h : execOp a.eval o = (do pure (.value (← s)))) (hs : s.run P w = .ok x w) :
    (execOp a.eval o).run P w = .ok (.value x) w := by
  rw [h]; simp [hs]

theorem wrap_toNat (k : IntKind) (n : Nat) : k.wrap (n : Int) = k.wrap n := rfl

theorem beqd {α : Type} [DecidableEq α] [BEq α] [LawfulBEq α] (x y : α) : (x == y) = decide (x = y) := by rw [Bool.eq_iff_iff]; simp
theorem equalIn_bool (n : Nat) (ty : TypeId) (x y : Bool) (h : P.underlying ty = some .bool) (w : World) : (Op.equalIn (n + 1) ty (.bool x) (.bool y)).run P w = .ok (decide (x = y)) w := by
  rw [← beqd]
  simp [Op.equalIn, run_underlying h]
theorem equalIn_ptr (n : Nat) (ty e : TypeId) (p : Option Addr) (h : P.underlying ty = some (.pointer e)) (w : World) : (Op.equalIn (n + 1) ty (.pointer p) (.pointer none)).run P w = .ok p.isNone w := by
  cases p <;> simp [Op.equalIn, run_underlying h]
theorem equalIn_slice (n : Nat) (ty e : TypeId) (p : Option Addr) (m c : Nat) (h : P.underlying ty = some (.slice e)) (w : World) : (Op.equalIn (n + 1) ty (.slice p m c) (.slice none 0 0)).run P w = .ok p.isNone w := by
  cases p <;> simp [Op.equalIn, run_underlying h]
theorem run_equal_bool (ty : TypeId) (x y : Bool) (h : P.underlying ty = some .bool) (w : World) : (Op.equal ty (.bool x) (.bool y)).run P w = .ok (decide (x = y)) w := equalIn_bool 9999 ty x y h w
theorem run_equal_ptr (ty e : TypeId) (p : Option Addr) (h : P.underlying ty = some (.pointer e)) (w : World) : (Op.equal ty (.pointer p) (.pointer none)).run P w = .ok p.isNone w := equalIn_ptr 9999 ty e p h w
theorem run_equal_slice (ty e : TypeId) (p : Option Addr) (n c : Nat) (h : P.underlying ty = some (.slice e)) (w : World) : (Op.equal ty (.slice p n c) (.slice none 0 0)).run P w = .ok p.isNone w := equalIn_slice 9999 ty e p n c h w
/-- A comparison that is the model's '=='. -/
theorem run_cmp {ty : TypeId} {u v : Value} {b : Bool} {w : World} (x y : Operand) (ne : Bool) (hg : (eqGuard (if ne then .neq else .eql) ty x y u v).run P w = .ok () w)
    (he : binOp .eql ty u v = (do pure (.bool (← Op.equal ty u v)))) (hn : binOp .neq ty u v = (do pure (.bool (!(← Op.equal ty u v))))) (h : (Op.equal ty u v).run P w = .ok b w) :
    (do eqGuard (if ne then .neq else .eql) ty x y u v; binOp (if ne then .neq else .eql) ty u v : Sem Value).run P w = .ok (.bool (if ne then !b else b)) w := by
  cases ne <;> simp_all
/-- Operators on numbers. -/
theorem binv_shape {op : BinOp} {u v : Value} {K : Value → Prop} (h : binv op u v K) :
    (∃ k n k' m, u = .int k n ∧ v = .int k' m) ∨ (∃ s s', u = .string s ∧ v = .string s') := by
  cases u <;> cases v <;> first | exact .inl ⟨_, _, _, _, rfl, rfl⟩ | exact .inr ⟨_, _, rfl, rfl⟩ | (cases op <;> simp only [binv] at h)
/-- What the model's operator gives, where 'binv' holds. -/
theorem binv_run {op : BinOp} {ty : TypeId} {u v : Value} {K : Value → Prop} (h : binv op u v K) : ∃ r, K r ∧ leaf r = true ∧ (∀ w, (binOp op ty u v).run P w = .ok r w) ∧
    (∀ x y w, (eqGuard op ty x y u v).run P w = .ok () w) := by
  have hg : ∀ x y w, (eqGuard op ty x y u v).run P w = .ok () w := by
    intro x y w
    rcases binv_shape h with ⟨k, n, k', m, rfl, rfl⟩ | ⟨s, s', rfl, rfl⟩ <;> (unfold eqGuard; split <;> simp)
  rcases binv_shape h with ⟨k, n, k', m, rfl, rfl⟩ | ⟨s, s', rfl, rfl⟩
  · cases op <;> simp only [binv] at h
    case add => obtain ⟨rfl, hk⟩ := h; exact ⟨_, hk, rfl, fun w => by simp [binOp, Op.intArith], hg⟩
    case sub => obtain ⟨rfl, hk⟩ := h; exact ⟨_, hk, rfl, fun w => by simp [binOp, Op.intArith], hg⟩
    case mul => obtain ⟨rfl, hk⟩ := h; exact ⟨_, hk, rfl, fun w => by simp [binOp, Op.intArith], hg⟩
    case quo => obtain ⟨rfl, hz, hk⟩ := h; exact ⟨_, hk, rfl, fun w => by simp [binOp, Op.intDiv, hz], hg⟩
    case rem => obtain ⟨rfl, hz, hk⟩ := h; exact ⟨_, hk, rfl, fun w => by simp [binOp, Op.intDiv, hz], hg⟩
    case and => obtain ⟨rfl, hk⟩ := h; exact ⟨_, hk, rfl, fun w => by simp [binOp, Op.intBits, iand], hg⟩
    case or => obtain ⟨rfl, hk⟩ := h; exact ⟨_, hk, rfl, fun w => by simp [binOp, Op.intBits, ior], hg⟩
    case xor => obtain ⟨rfl, hk⟩ := h; exact ⟨_, hk, rfl, fun w => by simp [binOp, Op.intBits, ixor], hg⟩
    case andNot => obtain ⟨rfl, hk⟩ := h; exact ⟨_, hk, rfl, fun w => by simp [binOp, Op.intBits, iandNot], hg⟩
    case shl => obtain ⟨hz, hk⟩ := h; exact ⟨_, hk, rfl, fun w => by simp [binOp, Op.shift, Int.not_lt.2 hz, ishl], hg⟩
    case shr => obtain ⟨hz, hk⟩ := h; exact ⟨_, hk, rfl, fun w => by simp [binOp, Op.shift, Int.not_lt.2 hz, ishr], hg⟩
    case eql => obtain ⟨rfl, hk⟩ := h; exact ⟨_, hk, rfl, fun w => by simp [binOp, Op.intCmp, BEq.beq], hg⟩
    case neq => obtain ⟨rfl, hk⟩ := h; exact ⟨_, hk, rfl, fun w => by simp [binOp, Op.intCmp, bne, BEq.beq], hg⟩
    case lss => obtain ⟨rfl, hk⟩ := h; exact ⟨_, hk, rfl, fun w => by simp [binOp, Op.intCmp], hg⟩
    case leq => obtain ⟨rfl, hk⟩ := h; exact ⟨_, hk, rfl, fun w => by simp [binOp, Op.intCmp], hg⟩
    case gtr => obtain ⟨rfl, hk⟩ := h; exact ⟨_, hk, rfl, fun w => by simp [binOp, Op.intCmp], hg⟩
    case geq => obtain ⟨rfl, hk⟩ := h; exact ⟨_, hk, rfl, fun w => by simp [binOp, Op.intCmp], hg⟩
  · cases op <;> simp only [binv] at h
    case eql => exact ⟨_, h, rfl, fun w => by simp [binOp, Op.stringOp, beqd], hg⟩
    case neq => exact ⟨_, h, rfl, fun w => by simp [binOp, Op.stringOp, beqd], hg⟩
theorem leaf_known {v : Value} (h : leaf v = true) : VR ρ v v := VR.leaf v h
theorem bin_ok {d : Nat} {op : BinOp} {ty yT tt : TypeId} {pos af gd} {x y : Operand} (hN : d < N) (hs : Slots N ρ t a) (hx : okx x = true) (hy : okx y = true)
    (h : binv op (oe t x) (oe t y) fun v => K (put t d v)) : PureAt X N P ⟨some d, .binOp op ty x y yT, tt, pos, af, gd⟩ ρ H a K := by
  have ex : a.eval x = oe t x ∧ a.eval y = oe t y := by
    rcases binv_shape h with ⟨k, n, k', m, e1, e2⟩ | ⟨s, s', e1, e2⟩
    · rw [e1, e2]; exact ⟨eval_int hs hx e1, eval_int hs hy e2⟩
    · rw [e1, e2]; exact ⟨eval_string hs hx e1, eval_string hs hy e2⟩
  obtain ⟨r, hk, hl, hr, hg⟩ := binv_run (P := P) (ty := ty) h
  refine PureAt.of rfl hN hs hk (fun _ => VR.leaf r hl) fun w _ => ?_
  simp [execOp, ex.1, ex.2, hg, hr]

theorem mov_ok {o : Oper} {d : Nat} {x : Operand} (hd : o.dst = some d) (he : execOp a.eval o = pure (.value (a.eval x))) (hN : d < N) (hs : Slots N ρ t a) (hx : okx x = true)
    (h : K (put t d (oe t x))) : PureAt X N P o ρ H a K :=
  PureAt.of hd hN hs h (fun hk => hs.eval hx hk) fun w _ => by rw [he]; rfl
theorem pick_ok {tt : TypeId} {pos af gd} {d : Nat} {c x y : Operand} (hN : d < N) (hs : Slots N ρ t a) (hc : okx c = true) (hx : okx x = true) (hy : okx y = true)
    (h : stepP X.GL H t (.pick d c x y) K) : PureAt X N P ⟨some d, .pick c x y, tt, pos, af, gd⟩ ρ H a K := by
  simp only [stepP] at h
  cases ec : oe t c <;> simp only [ec] at h
  rename_i b
  have e1 := eval_bool hs hc ec
  cases b
  · rw [br_false] at h
    exact PureAt.of rfl hN hs h (fun hk => hs.eval hy hk) fun w _ => by simp [execOp, e1, asBool]
  · rw [br_true] at h
    exact PureAt.of rfl hN hs h (fun hk => hs.eval hx hk) fun w _ => by simp [execOp, e1, asBool]
theorem beq_ok {tt yT ty : TypeId} {pos af gd} {d : Nat} {ne : Bool} {x y : Operand} (hu : P.underlying ty = some .bool) (hN : d < N) (hs : Slots N ρ t a) (hx : okx x = true) (hy : okx y = true)
    (h : stepP X.GL H t (.beq d ne x y) K) : PureAt X N P ⟨some d, .binOp (if ne then .neq else .eql) ty x y yT, tt, pos, af, gd⟩ ρ H a K := by
  simp only [stepP] at h
  cases ex : oe t x <;> simp only [ex] at h
  cases ey : oe t y <;> simp only [ey] at h
  have e1 := eval_bool hs hx ex
  have e2 := eval_bool hs hy ey
  refine PureAt.leaf rfl hN hs rfl h fun w _ => ?_
  refine pure_run _ rfl ?_
  rw [e1, e2]
  exact run_cmp x y ne (by unfold eqGuard; split <;> simp) rfl rfl (run_equal_bool ty _ _ hu w)
/-- What a comparison with nil is. -/
def nilOf : TypeDesc → Option Value
  | .pointer _ => some (.pointer none)
  | .slice _ => some (.slice none 0 0)
  | _ => none
theorem isnil_ok {tt yT ty : TypeId} {pos af gd} {d : Nat} {ne : Bool} {x : Operand} {td : TypeDesc} {nv : Value} (hu : P.underlying ty = some td) (hn : nilOf td = some nv) (hN : d < N) (hs : Slots N ρ t a) (hx : okx x = true)
    (h : stepP X.GL H t (.isnil d ne x (match td with | .slice _ => true | _ => false)) K) :
    PureAt X N P ⟨some d, .binOp (if ne then .neq else .eql) ty x (.const nv) yT, tt, pos, af, gd⟩ ρ H a K := by
  simp only [stepP] at h
  cases td <;> simp [nilOf] at hn <;> subst hn <;> simp only at h
  · cases ex : oe t x <;> simp only [ex] at h
    rename_i p
    have e1 := eval_of hs hx ex rfl
    obtain ⟨q, e1, hq⟩ : ∃ q, a.eval x = .pointer q ∧ q.isNone = p.isNone := by
      cases p with
      | none => simp only [VR] at e1; exact ⟨none, e1, rfl⟩
      | some b => simp only [VR] at e1; obtain ⟨c, _, e1⟩ := e1; exact ⟨some c, e1, rfl⟩
    refine PureAt.leaf rfl hN hs rfl h fun w _ => ?_
    refine pure_run _ rfl ?_
    rw [e1]
    have := run_cmp (P := P) (w := w) x (.const (.pointer none)) ne (by unfold eqGuard; split <;> simp) rfl rfl (run_equal_ptr ty _ q hu w)
    simp only [Act.eval]
    rw [this, hq]
    cases ne <;> cases p <;> rfl
  · cases ex : oe t x <;> simp only [ex] at h
    rename_i p n c
    have e1 := eval_of hs hx ex rfl
    obtain ⟨q, e1, hq⟩ : ∃ q, a.eval x = .slice q n c ∧ q.isNone = p.isNone := by
      cases p with
      | none => simp only [VR] at e1; exact ⟨none, e1, rfl⟩
      | some b => simp only [VR] at e1; obtain ⟨c, _, e1⟩ := e1; exact ⟨some c, e1, rfl⟩
    refine PureAt.leaf rfl hN hs rfl h fun w _ => ?_
    refine pure_run _ rfl ?_
    rw [e1]
    have := run_cmp (P := P) (w := w) x (.const (.slice none 0 0)) ne (by unfold eqGuard; split <;> simp) rfl rfl (run_equal_slice ty _ q n c hu w)
    simp only [Act.eval]
    rw [this, hq]
    cases ne <;> cases p <;> rfl
theorem not_ok {tt ty : TypeId} {pos af gd} {d : Nat} {x : Operand} (hN : d < N) (hs : Slots N ρ t a) (hx : okx x = true)
    (h : stepP X.GL H t (.not d x) K) : PureAt X N P ⟨some d, .unOp .not ty x, tt, pos, af, gd⟩ ρ H a K := by
  simp only [stepP] at h
  cases ex : oe t x <;> simp only [ex] at h
  have e1 := eval_bool hs hx ex
  exact PureAt.leaf rfl hN hs rfl h fun w _ => by simp [execOp, e1, Op.unary]
theorem neg_ok {tt ty : TypeId} {pos af gd} {d : Nat} {x : Operand} (hN : d < N) (hs : Slots N ρ t a) (hx : okx x = true)
    (h : stepP X.GL H t (.neg d x) K) : PureAt X N P ⟨some d, .unOp .neg ty x, tt, pos, af, gd⟩ ρ H a K := by
  simp only [stepP] at h
  cases ex : oe t x <;> simp only [ex] at h
  have e1 := eval_int hs hx ex
  exact PureAt.leaf rfl hN hs rfl h fun w _ => by simp [execOp, e1, Op.unary, Op.intArith]
theorem conv_ok {tt s e : TypeId} {pos af gd} {d : Nat} {k k' : IntKind} {x : Operand} (h1 : P.underlying s = some (.int k')) (h2 : P.underlying e = some (.int k)) (hN : d < N) (hs : Slots N ρ t a) (hx : okx x = true)
    (h : stepP X.GL H t (.conv d k x) K) : PureAt X N P ⟨some d, .convert s e x, tt, pos, af, gd⟩ ρ H a K := by
  simp only [stepP] at h
  cases ex : oe t x <;> simp only [ex] at h
  have e1 := eval_int hs hx ex
  exact PureAt.leaf rfl hN hs rfl h fun w _ => by simp [execOp, e1, convert, run_underlying h1, run_underlying h2, Conv.intToInt]
theorem nilc_ok {tt : TypeId} {pos af gd} {d : Nat} {x : Operand} (hN : d < N) (hs : Slots N ρ t a) (hx : okx x = true)
    (h : stepP X.GL H t (.nilc d x) K) : PureAt X N P ⟨some d, .nilCheck x, tt, pos, af, gd⟩ ρ H a K := by
  simp only [stepP] at h
  cases ex : oe t x <;> simp only [ex] at h
  · rename_i p
    cases p <;> simp only at h
    have e0 := eval_of hs hx ex rfl
    obtain ⟨c, hc, e1⟩ := eval_ptr hs hx ex
    exact PureAt.of rfl hN hs h (fun _ => e0) fun w _ => by simp [execOp, e1]
  · rename_i fn b c
    cases fn <;> simp only at h
    have e0 := eval_of hs hx ex rfl
    have e2 := e0
    simp only [VR] at e2
    obtain ⟨a', b', _, _, e1⟩ := e2
    exact PureAt.of rfl hN hs h (fun _ => e0) fun w _ => by simp [execOp, e1]
theorem ext_ok {tt : TypeId} {pos af gd} {d : Nat} {x : Operand} {i : Nat} (hN : d < N) (hs : Slots N ρ t a) (hx : okx x = true)
    (h : stepP X.GL H t (.ext d x i) K) : PureAt X N P ⟨some d, .extract x i, tt, pos, af, gd⟩ ρ H a K := by
  simp only [stepP] at h
  cases ex : oe t x <;> simp only [ex] at h
  rename_i vs
  obtain ⟨l⟩ := vs
  simp only at h
  cases hv : l[i]? with
  | none => simp only [hv] at h
  | some v =>
    simp only [hv] at h
    have e0 := eval_of hs hx ex (by cases l with | nil => simp at hv | cons u us => rfl)
    simp only [VR, VRa] at e0
    obtain ⟨ds, h1, h2⟩ := e0
    obtain ⟨y, h3, h4⟩ := h1.get hv
    exact PureAt.of rfl hN hs h (fun _ => h4) fun w _ => by simp [execOp, h2, Instr.extract, h3]

/-! ### Addresses and cells -/
theorem AR.off {b c : Addr} (h : AR ρ b c) (n : Nat) : AR ρ ⟨b.block, b.off + n, none⟩ (c.add n) := by
  obtain ⟨p, h1, h2, h3⟩ := h
  refine ⟨p, h1, rfl, ?_⟩
  subst h3
  unfold Addr.add
  split
  · rename_i hn; subst hn; simp
  · simp [Nat.add_assoc]
theorem AR.spot {b c : Addr} (h : AR ρ b c) : c.spot = none := by obtain ⟨p, _, _, rfl⟩ := h; rfl
theorem fld_ok {tt s : TypeId} {pos af gd} {d n f : Nat} {fs : Array Field} {fd : Field} {x : Operand} (hu : P.underlying s = some (.struct fs)) (hf : fs[f]? = some fd) (hz : tsize P fd.type = some n) (hn : n ≠ 0)
    (hN : d < N) (hs : Slots N ρ t a) (hx : okx x = true)
    (h : stepP X.GL H t (.fld d x fd.offset) K) : PureAt X N P ⟨some d, .fieldAddr s x f, tt, pos, af, gd⟩ ρ H a K := by
  simp only [stepP] at h
  cases ex : oe t x <;> simp only [ex] at h
  rename_i p
  cases p <;> simp only at h
  obtain ⟨c, hc, e1⟩ := eval_ptr hs hx ex
  refine PureAt.of rfl hN hs h (x := .pointer (some (c.add fd.offset))) (fun _ => by simp only [VR]; exact ⟨_, hc.off _, rfl⟩) fun w _ => ?_
  refine pure_run _ rfl ?_
  obtain ⟨i, hi, rfl⟩ : ∃ i, P.info? fd.type = some i ∧ i.size = n := by
    unfold tsize at hz; cases hi : P.info? fd.type <;> simp [hi] at hz; exact ⟨_, rfl, hz⟩
  simp [Instr.fieldAt, run_underlying hu, hf, e1, Instr.sureAddr, fieldPlace, sizeOf, typeInfo, hi, hn]
theorem tsize_info {e : TypeId} {n : Nat} (hz : tsize P e = some n) : ∃ i, P.info? e = some i ∧ i.size = n := by
  unfold tsize at hz; cases hi : P.info? e <;> simp [hi] at hz; exact ⟨_, rfl, hz⟩
theorem run_sizeOf {e : TypeId} {n : Nat} (hz : tsize P e = some n) (w : World) : (sizeOf e).run P w = .ok n w := by
  obtain ⟨i, hi, rfl⟩ := tsize_info hz
  simp [sizeOf, typeInfo, hi]
theorem aidx_ok {tt ty e : TypeId} {pos af gd} {d n sz : Nat} {x i : Operand} (hu : P.underlying ty = some (.array n e)) (hz : tsize P e = some sz) (hN : d < N) (hs : Slots N ρ t a) (hx : okx x = true) (hi : okx i = true)
    (h : stepP X.GL H t (.aidx d x i n sz) K) : PureAt X N P ⟨some d, .indexAddr ty x i, tt, pos, af, gd⟩ ρ H a K := by
  simp only [stepP] at h
  cases ex : oe t x <;> simp only [ex] at h
  rename_i p
  cases ei : oe t i <;> simp only [ei] at h
  cases p <;> simp only at h
  obtain ⟨c, hc, e1⟩ := eval_ptr hs hx ex
  have e2 := eval_int hs hi ei
  obtain ⟨hb, h⟩ := h
  refine PureAt.of rfl hN hs h (x := .pointer (some (c.add _))) (fun _ => by simp only [VR]; exact ⟨_, hc.off _, rfl⟩) fun w _ => ?_
  refine pure_run _ rfl ?_
  simp [Instr.indexAt, run_underlying hu, e1, e2, Instr.sureAddr, asIntOf, run_sizeOf hz, hb]
theorem sidx_ok {tt ty e : TypeId} {pos af gd} {d sz : Nat} {x i : Operand} (hu : P.underlying ty = some (.slice e)) (hz : tsize P e = some sz) (hN : d < N) (hs : Slots N ρ t a) (hx : okx x = true) (hi : okx i = true)
    (h : stepP X.GL H t (.sidx d x i sz) K) : PureAt X N P ⟨some d, .indexAddr ty x i, tt, pos, af, gd⟩ ρ H a K := by
  simp only [stepP] at h
  cases ex : oe t x <;> simp only [ex] at h
  rename_i p n cp
  cases ei : oe t i <;> simp only [ei] at h
  cases p <;> simp only at h
  have e0 := eval_of hs hx ex rfl
  simp only [VR] at e0
  obtain ⟨c, hc, e1⟩ := e0
  have e2 := eval_int hs hi ei
  obtain ⟨hb, h⟩ := h
  refine PureAt.of rfl hN hs h (x := .pointer (some (c.add _))) (fun _ => by simp only [VR]; exact ⟨_, hc.off _, rfl⟩) fun w _ => ?_
  refine pure_run _ rfl ?_
  simp [Instr.indexAt, run_underlying hu, e1, e2, Instr.sureAddr, asIntOf, run_sizeOf hz, hb]

/-! ### Reading -/
theorem lookG_mem : ∀ {GL : List (Nat × List Value)} {r : Nat} {o : SB}, lookG GL r = some o → ∃ g c, (g, c) ∈ GL ∧ r = GB + g ∧ o = .flat c c.length false
  | [], _, _, h => by simp [lookG] at h
  | (g, c) :: l, r, o, h => by
    simp only [lookG] at h
    split at h
    · rename_i hr; simp at h; exact ⟨g, c, by simp, hr, h.symm⟩
    · obtain ⟨g', c', h1, h2, h3⟩ := lookG_mem h; exact ⟨g', c', by simp [h1], h2, h3⟩
theorem Sat.look {w : World} (h : Sat X w ρ H) {r : Nat} {o : SB} (ho : look X.GL H r = some o) {p : Nat × Nat} (hp : ρ.at? r = some p) : SBok ρ w p o := by
  unfold SX.look at ho
  unfold Ren.at? at hp
  split at ho
  · rename_i hg
    rw [if_pos hg] at hp
    obtain ⟨g, c, h1, h2, rfl⟩ := lookG_mem ho
    subst h2
    obtain ⟨k1, k2⟩ := h.glob g c h1
    simp at hp
    subst hp
    exact ⟨k1, k2⟩
  · rename_i hg
    rw [if_neg hg] at hp
    split at ho
    · cases ho
    · rename_i hb
      rw [if_neg hb] at hp
      exact h.ok r p o hp ho
/-- The cells of a region, as they lie in the world. -/
def csOf (o : SB) : List Value := match o with
  | .cells c _ _ => c
  | .flat c _ _ => c
  | _ => []
theorem rd_some {o : Option SB} {i : Nat} {v : Value} (h : rd o i = some v) : ∃ b, o = some b ∧ (csOf b)[i]? = some v ∧ ((∃ c r wr, b = .cells c r wr) ∨ (∃ c r wr, b = .flat c r wr)) := by
  unfold rd at h
  split at h
  · exact ⟨_, rfl, h, .inl ⟨_, _, _, rfl⟩⟩
  · exact ⟨_, rfl, h, .inr ⟨_, _, _, rfl⟩⟩
  · cases h
theorem rdn_some {o : Option SB} {i n : Nat} {l : List Value} (h : rdn o i n = some l) : ∃ b, o = some b ∧ i + n ≤ (csOf b).length ∧ l = ((csOf b).drop i).take n ∧ ((∃ c r wr, b = .cells c r wr) ∨ (∃ c r wr, b = .flat c r wr)) := by
  unfold rdn at h
  split at h
  · split at h
    · rename_i hl; simp at h; exact ⟨_, rfl, hl, h.symm, .inl ⟨_, _, _, rfl⟩⟩
    · cases h
  · split at h
    · rename_i hl; simp at h; exact ⟨_, rfl, hl, h.symm, .inr ⟨_, _, _, rfl⟩⟩
    · cases h
  · cases h
/-- What lies behind a region of cells. -/
theorem SBok.cellsAt {w : World} {p : Nat × Nat} {o : SB} (h : SBok ρ w p o) (hk : (∃ c r wr, o = .cells c r wr) ∨ (∃ c r wr, o = .flat c r wr)) :
    ∃ cs room wr, VRl ρ (csOf o) cs ∧ CellsAt w p cs room wr := by
  rcases hk with ⟨c, r, wr, rfl⟩ | ⟨c, r, wr, rfl⟩
  · obtain ⟨cs, h1, h2⟩ := h; exact ⟨cs, r, wr, h1, h2⟩
  · obtain ⟨h1, h2⟩ := h; exact ⟨c, r, wr, VRl.leaf c h1, h2⟩
theorem CellsAt.cell {w : World} {p : Nat × Nat} {cs : List Value} {room : Nat} {wr : Bool} (h : CellsAt w p cs room wr) {i : Nat} {v : Value} (hv : cs[i]? = some v) :
    w.cell? ⟨p.1, p.2 + i, none⟩ = some v := by
  obtain ⟨pre, rest, e, fr, h1, h2, _, _⟩ := h
  have hi : i < cs.length := (List.getElem?_eq_some_iff.1 hv).1
  simp only [World.cell?, h1]
  rw [← h2]
  simp [List.getElem?_append_right, List.getElem?_append_left hi, hv]
theorem AR.at {b c : Addr} (h : AR ρ b c) : ∃ p, ρ.at? b.block = some p ∧ c = ⟨p.1, p.2 + b.off, none⟩ := by obtain ⟨p, h1, _, h3⟩ := h; exact ⟨p, h1, h3⟩
theorem run_isAgg_false {ty : TypeId} {td : TypeDesc} (hu : P.underlying ty = some td) (h1 : ∀ f, td ≠ .struct f) (h2 : ∀ n e, td ≠ .array n e) (w : World) : (isAgg ty).run P w = .ok false w := by
  cases td <;> simp_all [isAgg, run_underlying hu]
theorem run_isAgg_true {ty : TypeId} {td : TypeDesc} (hu : P.underlying ty = some td) (h : (∃ f, td = .struct f) ∨ (∃ n e, td = .array n e)) (w : World) : (isAgg ty).run P w = .ok true w := by
  rcases h with ⟨f, rfl⟩ | ⟨n, e, rfl⟩ <;> simp [isAgg, run_underlying hu]
/-- A load of one cell. -/
theorem load_1 {w : World} (hw : Sat X w ρ H) {b c : Addr} (hc : AR ρ b c) {v : Value} (hv : rd (SX.look X.GL H b.block) b.off = some v) {ty : TypeId} {td : TypeDesc} (hu : P.underlying ty = some td)
    (h1 : ∀ f, td ≠ .struct f) (h2 : ∀ n e, td ≠ .array n e) : ∃ y, VR ρ v y ∧ (loadVar ty c).run P w = .ok y w := by
  obtain ⟨o, ho, hi, hk⟩ := rd_some hv
  obtain ⟨q, hq, rfl⟩ := hc.at
  obtain ⟨cs, room, wr, k1, k2⟩ := (hw.look ho hq).cellsAt hk
  obtain ⟨y, hy, hvr⟩ := k1.get hi
  have hcell := k2.cell hy
  exact ⟨y, hvr, by simp [loadVar, run_isAgg_false hu h1 h2, hcell]⟩
/-- A load of several cells. -/
theorem load_n {w : World} (hw : Sat X w ρ H) {b c : Addr} (hc : AR ρ b c) {n : Nat} {l : List Value} (hv : rdn (SX.look X.GL H b.block) b.off n = some l) {ty : TypeId} {td : TypeDesc} (hu : P.underlying ty = some td)
    (h1 : (∃ f, td = .struct f) ∨ (∃ n e, td = .array n e)) (hz : tsize P ty = some n) : ∃ y, VR ρ (.agg ⟨l⟩) y ∧ (loadVar ty c).run P w = .ok y w := by
  obtain ⟨o, ho, hi, hl, hk⟩ := rdn_some hv
  obtain ⟨q, hq, rfl⟩ := hc.at
  obtain ⟨cs, room, wr, k1, k2⟩ := (hw.look ho hq).cellsAt hk
  have hvr : VRl ρ l ((cs.drop b.off).take n) := by rw [hl]; exact (k1.drop _).take _
  have hlen : ((cs.drop b.off).take n).length = n := by have := k1.length; simp; omega
  have hcells := run_loadCells_list (P := P) (w := w) ⟨q.1, q.2 + b.off, none⟩ ((cs.drop b.off).take n) (fun j v hj => by
    have : (⟨q.1, q.2 + b.off, none⟩ : Addr).add j = ⟨q.1, q.2 + (b.off + j), none⟩ := by unfold Addr.add; split <;> simp_all [Nat.add_assoc]
    rw [this]
    apply k2.cell
    rw [List.getElem?_take] at hj
    split at hj
    · simpa using hj
    · cases hj)
  rw [hlen] at hcells
  refine ⟨.agg ((cs.drop b.off).take n).toArray, by simp only [VR, VRa]; exact ⟨_, hvr, rfl⟩, ?_⟩
  simp [loadVar, run_isAgg_true hu h1, run_sizeOf hz, hcells]
theorem ld_ok {tt ty : TypeId} {pos af gd} {d : Nat} {td : TypeDesc} {x : Operand} (hu : P.underlying ty = some td) (h1 : ∀ f, td ≠ .struct f) (h2 : ∀ n e, td ≠ .array n e) (hN : d < N) (hs : Slots N ρ t a) (hx : okx x = true)
    {w1 : World} (hw1 : Sat X w1 ρ H) (h : stepP X.GL H t (.ld d x) K) : PureAt X N P ⟨some d, .load ty x, tt, pos, af, gd⟩ ρ H a K := by
  simp only [stepP] at h
  cases ex : oe t x <;> simp only [ex] at h
  rename_i p
  cases p <;> simp only at h
  rename_i b
  cases hv : rd (SX.look X.GL H b.block) b.off <;> simp only [hv] at h
  rename_i v
  obtain ⟨c, hc, e1⟩ := eval_ptr hs hx ex
  obtain ⟨o, ho, hi, hk⟩ := rd_some hv
  obtain ⟨q, hq, rfl⟩ := hc.at
  obtain ⟨cs, room, wr, k1, _⟩ := (hw1.look ho hq).cellsAt hk
  obtain ⟨y, hy, hvr⟩ := k1.get hi
  refine PureAt.of rfl hN hs h (fun _ => hvr) fun w hw => ?_
  refine pure_run _ rfl ?_
  obtain ⟨cs', room', wr', k1', k2'⟩ := (hw.look ho hq).cellsAt hk
  obtain ⟨y', hy', hvr'⟩ := k1'.get hi
  obtain rfl := VR.unique _ _ _ hvr hvr'
  have hcell := k2'.cell hy'
  simp [Instr.loadAt, e1, Instr.sureAddr, loadVar, run_isAgg_false hu h1 h2, hcell]
theorem ldn_ok {tt ty : TypeId} {pos af gd} {d n : Nat} {td : TypeDesc} {x : Operand} (hu : P.underlying ty = some td) (h1 : (∃ f, td = .struct f) ∨ (∃ n e, td = .array n e)) (hz : tsize P ty = some n) (hN : d < N) (hs : Slots N ρ t a) (hx : okx x = true)
    {w1 : World} (hw1 : Sat X w1 ρ H) (h : stepP X.GL H t (.ldn d x n) K) : PureAt X N P ⟨some d, .load ty x, tt, pos, af, gd⟩ ρ H a K := by
  simp only [stepP] at h
  cases ex : oe t x <;> simp only [ex] at h
  rename_i p
  cases p <;> simp only at h
  rename_i b
  cases hv : rdn (SX.look X.GL H b.block) b.off n <;> simp only [hv] at h
  rename_i l
  obtain ⟨c, hc, e1⟩ := eval_ptr hs hx ex
  obtain ⟨o, ho, hi, hl, hk⟩ := rdn_some hv
  obtain ⟨q, hq, rfl⟩ := hc.at
  obtain ⟨cs, room, wr, k1, _⟩ := (hw1.look ho hq).cellsAt hk
  have hvr : VRl ρ l ((cs.drop b.off).take n) := by rw [hl]; exact (k1.drop _).take _
  refine PureAt.of rfl hN hs h (x := .agg ((cs.drop b.off).take n).toArray) (fun _ => by simp only [VR, VRa]; exact ⟨_, hvr, rfl⟩) fun w hw => ?_
  refine pure_run _ rfl ?_
  obtain ⟨cs', room', wr', k1', k2'⟩ := (hw.look ho hq).cellsAt hk
  obtain rfl := VRl.unique _ _ _ k1 k1'
  have hlen : ((cs.drop b.off).take n).length = n := by have := k1.length; simp; omega
  have hcells := run_loadCells_list (P := P) (w := w) ⟨q.1, q.2 + b.off, none⟩ ((cs.drop b.off).take n) (fun j v hj => by
    have : (⟨q.1, q.2 + b.off, none⟩ : Addr).add j = ⟨q.1, q.2 + (b.off + j), none⟩ := by unfold Addr.add; split <;> simp_all [Nat.add_assoc]
    rw [this]
    apply k2'.cell
    rw [List.getElem?_take] at hj
    split at hj
    · simpa using hj
    · cases hj)
  rw [hlen] at hcells
  simp [Instr.loadAt, e1, Instr.sureAddr, loadVar, run_isAgg_true hu h1, run_sizeOf hz, hcells]
end
end Go.SX
