/-
  Functions: contracts over symbolic heaps; a contract at a call.
-/
import Derived.Test.YtbiaogehcnedmaaDoorSxK
set_option linter.unusedVariables false
set_option linter.unusedSimpArgs false
namespace Go.SX
open Go

inductive RV where
  | t (k : Nat)
  | c1 (k : Nat)
  | cn (k n : Nat)
def compR (P : Program) : List ResultVar → Option (List RV)
  | [] => some []
  | .tmp k :: r => (compR P r).map (.t k :: ·)
  | .cell k ty :: r => match P.underlying ty, tsize P ty, compR P r with
    | some (.struct _), some n, some rs | some (.array _ _), some n, some rs => some (.cn k n :: rs)
    | some _, some _, some rs => some (.c1 k :: rs)
    | _, _, _ => none
def resK (GL : List (Nat × List Value)) (H : List SB) (t : Env) : List RV → (List Value → Prop) → Prop
  | [], K => K []
  | .t k :: r, K => known (get t k) = true ∧ resK GL H t r fun vs => K (get t k :: vs)
  | .c1 k :: r, K => match get t k with
    | .pointer (some a) => (match rd (look GL H a.block) a.off with
      | some v => resK GL H t r fun vs => K (v :: vs)
      | none => False)
    | _ => False
  | .cn k n :: r, K => match get t k with
    | .pointer (some a) => (match rdn (look GL H a.block) a.off n with
      | some l => resK GL H t r fun vs => K (.agg ⟨l⟩ :: vs)
      | none => False)
    | _ => False
def tup : List Value → Value
  | [v] => v
  | vs => .tuple ⟨vs⟩
def finQ (GL : List (Nat × List Value)) (rv : List RV) (R : Value → List SB → Prop) : Exit → Env → List SB → Prop
  | .normal, t, H => resK GL H t rv fun vs => R (tup vs) H
  | .ret, t, H => resK GL H t rv fun vs => R (tup vs) H
  | _, _, _ => False
def env0 : Nat → List Value → Env
  | _, [] => []
  | k, v :: vs => (k, v) :: env0 (k + 1) vs
/-- A function's contract: called with 'vs' over the heap 'H' it returns a value and a heap of which 'R' holds; the first n regions stay where they are. -/
def Spec (P : Program) (GL : List (Nat × List Value)) (f : FuncId) (n : Nat) (vs : List Value) (H : List SB) (R : Value → List SB → Prop) : Prop :=
  ∀ (w0 : World) (D E : Nat → Prop) (w : World) (ρ : Ren) (xs : List Value), Sat ⟨w0, D, E, GL, n⟩ w ρ H → VRl ρ vs xs → Calls P f xs.toArray w fun e w' =>
    ∃ v x ρ' H', e = .returned x ∧ VR ρ' v x ∧ Sat ⟨w0, D, E, GL, n⟩ w' ρ' H' ∧ ρ'.take n = ρ.take n ∧ R v H'

section
variable {X : Cx} {N : Nat} {P : Program} {ρ : Ren} {H : List SB} {t : Env} {a : Act} {w : World}

theorem env0_get : ∀ {k : Nat} {vs : List Value} {j : Nat}, known (get (env0 k vs) j) = true → ∃ i, j = k + i ∧ vs[i]? = some (get (env0 k vs) j)
  | k, [], j, h => by simp [env0, get, known] at h
  | k, v :: vs, j, h => by
    simp only [env0, get] at *
    by_cases e : k = j
    · rw [if_pos e] at *; exact ⟨0, by omega, by simp⟩
    · rw [if_neg e] at *
      obtain ⟨i, h1, h2⟩ := env0_get h
      exact ⟨i + 1, by omega, by simpa using h2⟩
theorem slots0 {vs xs : List Value} (hv : VRl ρ vs xs) (hN : vs.length ≤ N) : Slots N ρ (env0 0 vs) { tmps := xs.toArray ++ Array.replicate (N - xs.toArray.size) undef, defers := [] } := by
  have hl := hv.length
  refine ⟨by simp; omega, fun k hk => ?_⟩
  obtain ⟨i, h1, h2⟩ := env0_get hk
  obtain ⟨y, h3, h4⟩ := hv.get h2
  have : k = i := by omega
  subst this
  refine ⟨y, ?_, h4⟩
  have hlt : k < xs.length := (List.getElem?_eq_some_iff.1 h3).1
  rw [Array.getElem?_append_left (by simpa using hlt)]
  simpa using h3
theorem slot_ptr (hs : Slots N ρ t a) {k : Nat} {b : Addr} (h : get t k = .pointer (some b)) : ∃ c, AR ρ b c ∧ (a.tmps[k]?).getD undef = .pointer (some c) := by
  obtain ⟨x, h1, h2⟩ := hs.at k (by rw [h]; rfl)
  rw [h] at h2
  simp only [VR] at h2
  obtain ⟨c, hc, rfl⟩ := h2
  exact ⟨c, hc, by simp [h1]⟩
theorem run_asAddr (c : Addr) (w : World) : (asAddr (.pointer (some c))).run P w = .ok c w := rfl
theorem res_ok (hw : Sat X w ρ H) (hs : Slots N ρ t a) : ∀ {rs : List ResultVar} {rv : List RV} {K : List Value → Prop}, compR P rs = some rv → resK X.GL H t rv K →
    ∃ vs xs, K vs ∧ VRl ρ vs xs ∧ (rs.mapM fun | .tmp t => pure (a.tmps.getD t undef) | .cell b ty => do loadVar ty (← asAddr (a.tmps.getD b undef)) : Sem (List Value)).run P w = .ok xs w
  | [], rv, K, hc, h => by
    simp only [compR, Option.some.injEq] at hc; subst hc
    exact ⟨[], [], h, by simp only [VRl], by simp⟩
  | .tmp k :: r, rv, K, hc, h => by
    simp only [compR, Option.map_eq_some_iff] at hc
    obtain ⟨rs, h1, rfl⟩ := hc
    obtain ⟨hk, h⟩ := h
    obtain ⟨vs, xs, h2, h3, h4⟩ := res_ok hw hs h1 h
    obtain ⟨x, h5, h6⟩ := hs.at k hk
    refine ⟨_, x :: xs, h2, by simp only [VRl]; exact ⟨h6, h3⟩, ?_⟩
    have : (a.tmps[k]?).getD undef = x := by simp [h5]
    simp at h4
    simp [this, h4]
  | .cell k ty :: r, rv, K, hc, h => by
    simp only [compR] at hc
    split at hc <;> try (cases hc; done)
    · rename_i fs n rs' hu hz h1
      simp only [Option.some.injEq] at hc; subst hc
      simp only [resK] at h
      cases ex : get t k <;> simp only [ex] at h
      rename_i p
      cases p <;> simp only at h
      rename_i b
      cases hv : rdn (SX.look X.GL H b.block) b.off n <;> simp only [hv] at h
      obtain ⟨vs, xs, h2, h3, h4⟩ := res_ok hw hs h1 h
      obtain ⟨c, hc, e1⟩ := slot_ptr hs ex
      obtain ⟨y, hy, hr⟩ := load_n hw hc hv hu (.inl ⟨_, rfl⟩) hz
      refine ⟨_, _ :: xs, h2, by simp only [VRl]; exact ⟨hy, h3⟩, ?_⟩
      simp at h4
      simp [e1, run_asAddr, hr, h4]
    · rename_i len el n rs' hu hz h1
      simp only [Option.some.injEq] at hc; subst hc
      simp only [resK] at h
      cases ex : get t k <;> simp only [ex] at h
      rename_i p
      cases p <;> simp only at h
      rename_i b
      cases hv : rdn (SX.look X.GL H b.block) b.off n <;> simp only [hv] at h
      obtain ⟨vs, xs, h2, h3, h4⟩ := res_ok hw hs h1 h
      obtain ⟨c, hc, e1⟩ := slot_ptr hs ex
      obtain ⟨y, hy, hr⟩ := load_n hw hc hv hu (.inr ⟨_, _, rfl⟩) hz
      refine ⟨_, _ :: xs, h2, by simp only [VRl]; exact ⟨hy, h3⟩, ?_⟩
      simp at h4
      simp [e1, run_asAddr, hr, h4]
    · rename_i hn1 hn2 hu hz h1
      simp only [Option.some.injEq] at hc; subst hc
      simp only [resK] at h
      cases ex : get t k <;> simp only [ex] at h
      rename_i p
      cases p <;> simp only at h
      rename_i b
      cases hv : rd (SX.look X.GL H b.block) b.off <;> simp only [hv] at h
      obtain ⟨vs, xs, h2, h3, h4⟩ := res_ok hw hs h1 h
      obtain ⟨c, hc, e1⟩ := slot_ptr hs ex
      obtain ⟨y, hy, hr⟩ := load_1 hw hc hv hu hn1 hn2
      refine ⟨_, y :: xs, h2, by simp only [VRl]; exact ⟨hy, h3⟩, ?_⟩
      simp at h4
      simp [e1, run_asAddr, hr, h4]

theorem tup_ok {vs xs : List Value} (hv : VRl ρ vs xs) : VR ρ (tup vs) (if h : xs.toArray.size = 1 then xs.toArray[0] else .tuple xs.toArray) := by
  match vs, xs, hv with
  | [], [], _ => simp [tup, VR, VRa, VRl]
  | [v], [x], hv => simp only [VRl] at hv; simpa [tup] using hv.1
  | v :: v' :: vs, x :: x' :: xs, hv => simp [tup, VR, VRa, hv]
  | [], _ :: _, hv => simp only [VRl] at hv
  | _ :: _, [], hv => simp only [VRl] at hv
  | [_], _ :: _ :: _, hv => simp only [VRl] at hv; exact hv.2.elim
  | _ :: _ :: _, [_], hv => simp only [VRl] at hv; exact hv.2.elim
/-- A contract out of the instructions. -/
theorem spec_of_ev {GL : List (Nat × List Value)} {f : FuncId} {n : Nat} {vs : List Value} {H : List SB} {R : Value → List SB → Prop} {fn : Func} {h : Hint} {ic : IC} {rv : List RV}
    (hf : P.funcs[f]? = some fn) (hc : (fn.body.bind fun c => compC P fn.ntmps c h) = some ic) (hr : compR P fn.results.toList = some rv) (hl : vs.length ≤ fn.ntmps)
    (hev : ∀ X : Cx, X.GL = GL → X.n = n → ev X fn.ntmps P ic (env0 0 vs) H (finQ GL rv R)) : Spec P GL f n vs H R := by
  obtain ⟨c, hb, hc⟩ := Option.bind_eq_some_iff.1 hc
  intro w0 D E w ρ xs hw hv
  refine calls_of_wp hf hb ?_
  refine ev_ok hc (hev ⟨w0, D, E, GL, n⟩ rfl rfl) w _ ρ hw (slots0 hv hl) _ ?_
  intro e w' a' ρ' t' H' hw' hρ hs' hd hQ
  have key : resK GL H' t' rv (fun vs => R (tup vs) H') → a'.defers = [] ∧ ∃ v, (results fn a'.tmps).run P w' = .ok v w' ∧ ∃ v_1 x ρ' H', Ending.returned v = .returned x ∧ VR ρ' v_1 x ∧ Sat ⟨w0, D, E, GL, n⟩ w' ρ' H' ∧ ρ'.take n = ρ.take n ∧ R v_1 H' := by
    intro h
    obtain ⟨vs', xs', h1, h2, h3⟩ := res_ok (P := P) hw' hs' hr h
    refine ⟨hd, _, ?_, tup vs', _, ρ', H', rfl, tup_ok h2, hw', hρ, h1⟩
    have h4 : (fn.results.mapM fun | .tmp t => pure (a'.tmps.getD t undef) | .cell b ty => do loadVar ty (← asAddr (a'.tmps.getD b undef)) : Sem (Array Value)).run P w' = .ok xs'.toArray w' := by
      rw [← Array.toArray_toList (xs := fn.results), List.mapM_toArray]
      simp at h3
      simp [h3]
    have h5 : results fn a'.tmps = ((fn.results.mapM fun | .tmp t => pure (a'.tmps.getD t undef) | .cell b ty => do loadVar ty (← asAddr (a'.tmps.getD b undef)) : Sem (Array Value)) >>= fun vs => pure (if h : vs.size = 1 then vs[0] else .tuple vs)) := rfl
    rw [h5, Sem.run_bind, h4]
    rfl
  cases e with
  | normal => exact key hQ
  | ret => exact key hQ
  | _ => exact hQ.elim
end
end Go.SX
