/-
  Why the instructions of a function tell what its code does.
-/
import Derived.Test.YtbiaogehcnedmaaDoorSxI
set_option linter.unusedVariables false
set_option linter.unusedSimpArgs false
namespace Go.SX
open Go
section
variable {X : Cx} {N : Nat} {P : Program} {ρ : Ren} {H : List SB} {t : Env} {a : Act}

theorem put_defers (a : Act) (d : Option Nat) (v : Value) : (a.put d v).defers = a.defers := by cases d <;> rfl
theorem vals_ok (hs : Slots N ρ t a) : ∀ {args : List Operand}, args.all okx = true → knownAll t args = true → VRl ρ (vals t args) (args.map a.eval)
  | [], _, _ => by simp [vals, VRl]
  | x :: xs, h, hk => by
    simp only [List.all_cons, Bool.and_eq_true] at h
    simp only [knownAll, Bool.and_eq_true] at hk
    simp only [vals, List.map_cons, VRl]
    exact ⟨hs.eval h.1 hk.1, vals_ok hs h.2 hk.2⟩
theorem Slots.putd (hs : Slots N ρ t a) {d : Option Nat} (hd : ∀ k, d = some k → k < N) {v x : Value} (hv : known v = true → VR ρ v x) : Slots N ρ (putd t d v) (a.put d x) := by
  cases d with
  | none => exact hs
  | some k => exact hs.put (hd k rfl) hv
/-- What a call operation is. -/
theorem call_comp {o : Oper} {d : Option Nat} {f : FuncId} {args : List Operand} (hc : compO P o = some (.call d f args)) :
    ∃ ats fn, o.op = .call { callee := .value (.func f), args := args.toArray, argTypes := ats } ∧ P.funcs[f]? = some fn ∧ fn.body.isSome = true ∧ (fn.name == "runtime.NumGoroutine") = false ∧ args.all okx = true := by
  obtain ⟨dst, op, tt, pos, af, gd⟩ := o
  unfold compO at hc
  dsimp only at hc
  split at hc
  case h_4 =>
    split at hc
    · simp only [Option.some.injEq] at hc; cases hc
    split at hc
    · have := compB_isP hc; simp [isP] at this
    · cases hc
  all_goals
    repeat' split at hc
    all_goals first
      | (cases hc; done)
      | (simp only [Option.some.injEq] at hc; cases hc; done)
      | skip
  rename_i hf hx
  simp only [Bool.and_eq_true, Bool.not_eq_true'] at hx
  simp only [Option.some.injEq, I.call.injEq] at hc
  obtain ⟨rfl, rfl, rfl⟩ := hc
  exact ⟨_, _, rfl, hf, hx.1.1, hx.1.2, hx.2⟩
theorem callv_comp {o : Oper} {d : Option Nat} {x : Operand} {args : List Operand} (hc : compO P o = some (.callv d x args)) :
    ∃ ats, o.op = .call { callee := .value x, args := args.toArray, argTypes := ats } ∧ okx x = true ∧ args.all okx = true := by
  obtain ⟨dst, op, tt, pos, af, gd⟩ := o
  unfold compO at hc
  dsimp only at hc
  split at hc
  case h_4 =>
    split at hc
    · simp only [Option.some.injEq] at hc; cases hc
    split at hc
    · have := compB_isP hc; simp [isP] at this
    · cases hc
  all_goals
    repeat' split at hc
    all_goals first
      | (cases hc; done)
      | (simp only [Option.some.injEq] at hc; cases hc; done)
      | skip
  rename_i hx
  simp only [Bool.and_eq_true] at hx
  simp only [Option.some.injEq, I.callv.injEq] at hc
  obtain ⟨rfl, rfl, rfl⟩ := hc
  exact ⟨_, rfl, hx.1, hx.2⟩

theorem run_call {o : Oper} {f : FuncId} {args : List Operand} {ats} {fn : Func} {w : World} (ho : o.op = .call { callee := .value (.func f), args := args.toArray, argTypes := ats }) (hf : P.funcs[f]? = some fn) (hb : fn.body.isSome = true)
    (hn : (fn.name == "runtime.NumGoroutine") = false) : (execOp a.eval o).run P w = .ok (.enter f (args.map a.eval).toArray) w := by
  have hb' : fn.body ≠ none := by intro e; rw [e] at hb; cases hb
  have hn' : fn.name ≠ "runtime.NumGoroutine" := by simpa using hn
  simp [execOp, ho, resolve, Act.eval, Deferred.ofValue, invoke, callFunc, hf, hn', hb']

theorem step1_ok {K : Env → List SB → Prop} {o : Oper} {i : I} (hc : compO P o = some i) (hN : ∀ d, i.dst = some d → d < N) (h : step1 X N P t H K i) : HardK X N P o t H K := by
  have hdst := hard_dst hc
  by_cases hp : isP i = true
  · have h' : stepP X.GL H t i (fun t' => K t' H) := by cases i <;> first | exact h | (simp [isP] at hp; done)
    intro w a ρ hw hs next Q hn
    obtain ⟨x, t', hk, hs', hr⟩ := pure_ok hc hp hN hw hs h'
    have := hn w x [] t' H (by simpa using hw) (by simpa using hs') hk
    simp only [Oper.wp, hr w hw, Oper.upon]
    exact this
  · by_cases hh : isH i = false
    · have h' : stepE X.GL H t i K := by cases i <;> first | exact h | exact absurd rfl hp | (simp [isH] at hh; done)
      intro w a ρ hw hs next Q hn
      obtain ⟨x, w', e, t', H', hr, hw', hs', hk⟩ := eff_ok hc (by simpa using hp) hh hN hw hs h'
      have := hn w' x e t' H' hw' hs' hk
      rcases hr with hr | ⟨hr, rfl⟩
      · simp only [Oper.wp, hr, Oper.upon]; exact this
      · simp only [Oper.wp, hr, Oper.upon]; exact this
    · cases i <;> simp [isH] at hh
      case hard d o' =>
        have := hard_op hc
        subst this
        exact h
      case call d f args =>
        obtain ⟨ats, fn, ho, hf, hb, hnm, hall⟩ := call_comp hc
        obtain ⟨hk, h⟩ := h
        intro w a ρ hw hs next Q hn
        have hcall := h w ρ _ hw (vals_ok hs hall hk)
        simp only [Oper.wp, run_call ho hf hb hnm, Oper.upon]
        refine hcall.mono fun e w' hR => ?_
        obtain ⟨v, x, e', H', rfl, hv, hw', hkk⟩ := hR
        rw [← hdst] at hn ⊢
        exact hn w' x e' _ H' hw' ((hs.mono e').putd hN fun _ => hv) hkk
      case callv d x args =>
        obtain ⟨ats, ho, hx, hall⟩ := callv_comp hc
        obtain ⟨hk, h⟩ := h
        cases ex : oe t x <;> simp only [ex] at h
        rename_i fn a1 c1
        cases fn <;> simp only at h
        rename_i f
        obtain ⟨a1⟩ := a1
        obtain ⟨c1⟩ := c1
        obtain ⟨⟨fn, hf, hb, hnm⟩, h⟩ := h
        intro w a ρ hw hs next Q hn
        have e0 := eval_of hs hx ex rfl
        simp only [VR, VRa] at e0
        obtain ⟨a', c', ha', hc', e1⟩ := e0
        have hcall := h w ρ _ hw (ha'.append ((vals_ok hs hall hk).append hc'))
        have hb' : fn.body ≠ none := by intro e; rw [e] at hb; cases hb
        have hn' : fn.name ≠ "runtime.NumGoroutine" := by simpa using hnm
        have hr : (execOp a.eval o).run P w = .ok (.enter f (a' ++ (args.map a.eval ++ c')).toArray) w := by
          simp [execOp, ho, resolve, e1, Deferred.ofValue, invoke, callFunc, hf, hn', hb']
        simp only [Oper.wp, hr, Oper.upon]
        refine hcall.mono fun e w' hR => ?_
        obtain ⟨v, y, e', H', rfl, hv, hw', hkk⟩ := hR
        rw [← hdst] at hn ⊢
        exact hn w' y e' _ H' hw' ((hs.mono e').putd hN fun _ => hv) hkk


/-! ### Regions -/
theorem comp_g {ops : List Oper} {o : Oper} {g : GI} (hc : compG P N ops o = some g) : compO P o = some g.i ∧ (∀ d, g.i.dst = some d → d < N) ∧
    ((o.guard = none ∧ g.g = none) ∨ ∃ j b s, o.guard = some (j, b) ∧ (ops[j]?).bind (·.dst) = some s ∧ g.g = some (s, b)) := by
  unfold compG at hc
  split at hc
  · rename_i i hi
    split at hc
    · rename_i hd
      have hd' : ∀ d, i.dst = some d → d < N := by
        intro d e; unfold dok at hd; rw [e] at hd; simpa using hd
      split at hc
      · rename_i hg; simp only [Option.some.injEq] at hc; subst hc; exact ⟨hi, hd', .inl ⟨hg, rfl⟩⟩
      · rename_i j b hg
        split at hc
        · rename_i s hs; simp only [Option.some.injEq] at hc; subst hc; exact ⟨hi, hd', .inr ⟨j, b, s, hg, hs, rfl⟩⟩
        · cases hc
    · cases hc
  · cases hc
theorem wanted_of (hs : Slots N ρ t a) {ops : List Oper} {o : Oper} {j : Nat} {b x : Bool} {s : Nat} (hg : o.guard = some (j, b)) (hj : (ops[j]?).bind (·.dst) = some s) (hx : gv (get t s) b = some x) :
    Region.wanted o (yielded ops.toArray a.tmps) = x := by
  have hj' : (ops.toArray[j]?).bind (·.dst) = some s := by simpa using hj
  unfold gv at hx
  split at hx <;> try (cases hx; done)
  · rename_i y hv
    obtain ⟨z, h1, h2⟩ := hs.at s (by rw [hv]; rfl)
    rw [hv] at h2
    simp only [VR] at h2
    subst h2
    have : yielded ops.toArray a.tmps j = some y := by
      unfold yielded
      rw [hj']
      simp [h1]
    simp only [Region.wanted, hg, this]
    simp only [Option.some.injEq] at hx
    subst hx
    cases b <;> cases y <;> rfl
  · rename_i hv
    obtain ⟨z, h1, h2⟩ := hs.at s (by rw [hv]; rfl)
    rw [hv] at h2
    simp only [VR, VRa] at h2
    obtain ⟨ds, h3, rfl⟩ := h2
    have hds : ds = [] := by cases ds with
      | nil => rfl
      | cons d ds => simp only [VRl] at h3
    subst hds
    have : yielded ops.toArray a.tmps j = none := by
      unfold yielded
      rw [hj']
      simp [h1]
    simp only [Region.wanted, hg, this]
    simp only [Option.some.injEq] at hx
    subst hx
    cases b <;> rfl
theorem wanted_none {o : Oper} (hg : o.guard = none) (y : Nat → Option Bool) : Region.wanted o y = true := by simp [Region.wanted, hg]
theorem skipd_ok (hs : Slots N ρ t a) {o : Oper} {i : I} (hd : i.dst = o.dst) (hN : ∀ d, i.dst = some d → d < N) : Slots N ρ (skipd t i) (a.put o.dst undef) := by
  unfold skipd
  rw [hd]
  exact hs.putd (by rw [← hd]; exact hN) (fun hk => by simp [VR, VRa, VRl, undef])
theorem ops_ok {ops : List Oper} {Q : Exit → Act → World → Prop} : ∀ {l : List Oper} {gs : List GI} {t : Env} {H : List SB} {K : Env → List SB → Prop} {ρ : Ren} {a : Act} {w : World},
    compL P N ops l = some gs → evOps X N P gs t H K → Sat X w ρ H → Slots N ρ t a →
    (∀ w' a' e t' H', Sat X w' (ρ ++ e) H' → Slots N (ρ ++ e) t' a' → a'.defers = a.defers → K t' H' → Q .normal a' w') → wpList P ops.toArray Q l a w
  | [], gs, t, H, K, ρ, a, w, hc, h, hw, hs, hn => by
    simp only [compL, Option.some.injEq] at hc; subst hc
    exact hn w a [] t H (by simpa using hw) (by simpa using hs) rfl h
  | o :: l, gs, t, H, K, ρ, a, w, hc, h, hw, hs, hn => by
    simp only [compL] at hc
    cases hg : compG P N ops o <;> cases hl : compL P N ops l <;> simp only [hg, hl] at hc <;> try (cases hc; done)
    rename_i g gs'
    simp only [Option.some.injEq] at hc
    subst hc
    obtain ⟨h1, h2, h3⟩ := comp_g hg
    have step : step1 X N P t H (fun t' H' => evOps X N P gs' t' H' K) g.i → o.wp P a w (wpList P ops.toArray Q l) Q := fun hst =>
      step1_ok h1 h2 hst w a ρ hw hs _ _ fun w' x e t' H' hw' hs' hk =>
        ops_ok hl hk hw' hs' fun w2 a2 e2 t2 H2 hw2 hs2 hd2 hk2 => hn w2 a2 (e ++ e2) t2 H2 (by simpa using hw2) (by simpa using hs2) (hd2.trans (put_defers _ _ _)) hk2
    obtain ⟨gg, gi⟩ := g
    rcases h3 with ⟨h3, h4⟩ | ⟨j, b, s, h3, h4, h5⟩
    · simp only at h4; subst h4
      unfold wpList
      rw [if_pos (wanted_none h3 _)]
      exact .inl (step h)
    · simp only at h5; subst h5
      simp only [evOps] at h
      cases hx : gv (get t s) b <;> simp only [hx] at h
      rename_i x
      unfold wpList
      rw [wanted_of hs h3 h4 hx]
      cases x
      · rw [br_false] at h
        rw [if_neg (by simp)]
        exact ops_ok hl h hw (skipd_ok hs (hard_dst h1) h2) fun w2 a2 e2 t2 H2 hw2 hs2 hd2 hk2 => hn w2 a2 e2 t2 H2 hw2 hs2 (hd2.trans (put_defers _ _ _)) hk2
      · rw [br_true] at h
        rw [if_pos rfl]
        exact .inl (step h)
theorem head_ok {ops : List Oper} {Q : Act → Prop} {w : World} : ∀ {l : List Oper} {gs : List GI} {t : Env} {H : List SB} {K : Env → Prop} {ρ : Ren} {a : Act},
    compL P N ops l = some gs → evP X H gs t K → Sat X w ρ H → Slots N ρ t a →
    (∀ a' t', Slots N ρ t' a' → a'.defers = a.defers → K t' → Q a') → wpStill P ops.toArray w Q l a
  | [], gs, t, H, K, ρ, a, hc, h, hw, hs, hn => by
    simp only [compL, Option.some.injEq] at hc; subst hc
    exact hn a t hs rfl h
  | o :: l, gs, t, H, K, ρ, a, hc, h, hw, hs, hn => by
    simp only [compL] at hc
    cases hg : compG P N ops o <;> cases hl : compL P N ops l <;> simp only [hg, hl] at hc <;> try (cases hc; done)
    rename_i g gs'
    simp only [Option.some.injEq] at hc
    subst hc
    obtain ⟨h1, h2, h3⟩ := comp_g hg
    have step : (isP g.i = true ∧ stepP X.GL H t g.i fun t' => evP X H gs' t' K) → o.still P a w (wpStill P ops.toArray w Q l) := fun ⟨hp, hst⟩ => by
      obtain ⟨x, t', hk, hs', hr⟩ := pure_ok h1 hp h2 hw hs hst
      simp only [Oper.still, hr w hw, Oper.stillUpon_value]
      exact head_ok hl hk hw hs' fun a2 t2 hs2 hd2 hk2 => hn a2 t2 hs2 (hd2.trans (put_defers _ _ _)) hk2
    obtain ⟨gg, gi⟩ := g
    rcases h3 with ⟨h3, h4⟩ | ⟨j, b, s, h3, h4, h5⟩
    · simp only at h4; subst h4
      unfold wpStill
      rw [if_pos (wanted_none h3 _)]
      exact step h
    · simp only at h5; subst h5
      simp only [evP] at h
      cases hx : gv (get t s) b <;> simp only [hx] at h
      rename_i x
      unfold wpStill
      rw [wanted_of hs h3 h4 hx]
      cases x
      · rw [br_false] at h
        rw [if_neg (by simp)]
        exact head_ok hl h hw (skipd_ok hs (hard_dst h1) h2) fun a2 t2 hs2 hd2 hk2 => hn a2 t2 hs2 (hd2.trans (put_defers _ _ _)) hk2
      · rw [br_true] at h
        rw [if_pos rfl]
        exact step h
theorem stepQ_ok {K : Env → Prop} {o : Oper} {i : I} (hc : compO P o = some i) (hN : ∀ d, i.dst = some d → d < N) (h : stepQ X N P t H K i) : QuietK X N P o t H K := by
  have hdst := hard_dst hc
  by_cases hp : isP i = true
  · have h' : stepP X.GL H t i K := by cases i <;> first | exact h | (simp [isP] at hp; done)
    intro ρ a w1 hw1 hs
    obtain ⟨x, t', hk, hs', hr⟩ := pure_ok hc hp hN hw1 hs h'
    exact ⟨x, t', hk, hs', fun w hw => by unfold Oper.quietAt; rw [hr w hw]; exact ⟨rfl, rfl⟩⟩
  · cases i <;> first | exact absurd rfl hp | (simp only [stepQ] at h; done) | skip
    case call d f args =>
      obtain ⟨ats, fn, ho, hf, hb, hnm, hall⟩ := call_comp hc
      obtain ⟨hk, v, hl, hkv, h⟩ := h
      intro ρ a w1 hw1 hs
      refine ⟨v, _, hkv, ?_, fun w hw => ?_⟩
      · rw [← hdst]; exact hs.putd hN fun _ => VR.leaf v hl
      · unfold Oper.quietAt
        rw [run_call ho hf hb hnm]
        exact ⟨rfl, h w ρ _ hw (vals_ok hs hall hk)⟩
    case hard d o' =>
      have := hard_op hc
      subst this
      exact h
theorem quiet_ok {ops : List Oper} {Q : Act → Prop} : ∀ {l : List Oper} {gs : List GI} {t : Env} {K : Env → Prop} {a : Act} {w1 : World},
    compL P N ops l = some gs → evQ X N P H gs t K → Sat X w1 ρ H → Slots N ρ t a →
    (∀ a' t', Slots N ρ t' a' → a'.defers = a.defers → K t' → Q a') → wpQuiet P ops.toArray (fun w' => Sat X w' ρ H) Q l a
  | [], gs, t, K, a, w1, hc, h, hw, hs, hn => by
    simp only [compL, Option.some.injEq] at hc; subst hc
    exact hn a t hs rfl h
  | o :: l, gs, t, K, a, w1, hc, h, hw, hs, hn => by
    simp only [compL] at hc
    cases hg : compG P N ops o <;> cases hl : compL P N ops l <;> simp only [hg, hl] at hc <;> try (cases hc; done)
    rename_i g gs'
    simp only [Option.some.injEq] at hc
    subst hc
    obtain ⟨h1, h2, h3⟩ := comp_g hg
    have step : (stepQ X N P t H (fun t' => evQ X N P H gs' t' K) g.i) → o.quiet P a (fun w' => Sat X w' ρ H) (wpQuiet P ops.toArray (fun w' => Sat X w' ρ H) Q l) := fun hst => by
      obtain ⟨x, t', hk, hs', hr⟩ := stepQ_ok h1 h2 hst ρ a w1 hw hs
      exact ⟨x, hr, quiet_ok hl hk hw hs' fun a2 t2 hs2 hd2 hk2 => hn a2 t2 hs2 (hd2.trans (put_defers _ _ _)) hk2⟩
    obtain ⟨gg, gi⟩ := g
    rcases h3 with ⟨h3, h4⟩ | ⟨j, b, s, h3, h4, h5⟩
    · simp only at h4; subst h4
      unfold wpQuiet
      rw [if_pos (wanted_none h3 _)]
      exact step h
    · simp only at h5; subst h5
      simp only [evQ] at h
      cases hx : gv (get t s) b <;> simp only [hx] at h
      rename_i x
      unfold wpQuiet
      rw [wanted_of hs h3 h4 hx]
      cases x
      · rw [br_false] at h
        rw [if_neg (by simp)]
        exact quiet_ok hl h hw (skipd_ok hs (hard_dst h1) h2) fun a2 t2 hs2 hd2 hk2 => hn a2 t2 hs2 (hd2.trans (put_defers _ _ _)) hk2
      · rw [br_true] at h
        rw [if_pos rfl]
        exact step h
end
end Go.SX
