/-
  Regions whose operations may come up in more orders than one.
-/
import Derived.Test.YtbiaogehcnedmaaDoorSxJ
set_option linter.unusedVariables false
set_option linter.unusedSimpArgs false
namespace Go.SX
open Go
/-- The post, but no panic. -/
def NoP (Q : Exit → Act → World → Prop) : Exit → Act → World → Prop
  | .panic _, _, _ => False
  | e, a, w => Q e a w
theorem NoP.imp {Q : Exit → Act → World → Prop} : ∀ (e : Exit) (a : Act) (w : World), NoP Q e a w → Q e a w := fun e a w h => by
  cases e <;> first | exact h | exact (h : False).elim
section
variable {X : Cx} {N : Nat} {P : Program} {ρ : Ren} {H : List SB} {t : Env} {a : Act}
def frz1 (b : Bool) : SB → SB
  | .cells c m wr => if b then .cells c m wr else .dead
  | .flat c m wr => if b then .flat c m wr else .dead
  | _ => .dead
/-- The regions 'M' alone. -/
def frz (M : List Nat) : Nat → List SB → List SB
  | _, [] => []
  | k, o :: os => frz1 (M.contains k) o :: frz M (k + 1) os
theorem frz_length {M : List Nat} : ∀ {H : List SB} {k : Nat}, (frz M k H).length = H.length
  | [], _ => rfl
  | o :: os, k => by simp [frz, frz_length (H := os) (k := k + 1)]
theorem frz_get {M : List Nat} : ∀ {H : List SB} {k r : Nat}, (frz M k H)[r]? = (H[r]?).map (frz1 (M.contains (k + r)))
  | [], _, r => by simp [frz]
  | o :: os, k, 0 => by simp [frz]
  | o :: os, k, r + 1 => by
    simp only [frz, List.getElem?_cons_succ]
    rw [frz_get (H := os) (k := k + 1) (r := r)]
    rw [show k + 1 + r = k + (r + 1) from by omega]
theorem frz1_cases (b : Bool) (o : SB) : frz1 b o = .dead ∨ (frz1 b o = o ∧ b = true) := by
  cases o <;> cases b <;> simp [frz1]
theorem rd_frz {M : List Nat} {GL : List (Nat × List Value)} {r i : Nat} {v : Value} (hM : (decide (GB ≤ r) || M.contains r) = true) (h : rd (look GL H r) i = some v) : rd (look GL (frz M 0 H) r) i = some v := by
  unfold look at *
  split
  · rename_i hg; rwa [if_pos hg] at h
  · rename_i hg
    rw [if_neg hg] at h
    split
    · rename_i hb; rw [if_pos hb] at h; exact h
    · rename_i hb
      rw [if_neg hb] at h
      rw [frz_get, Nat.zero_add]
      simp only [hg, decide_false, Bool.false_or] at hM
      cases ho : H[r]? with
      | none => rw [ho] at h; exact h
      | some o => rw [ho] at h; cases o <;> simp_all [frz1, rd]
theorem rdn_frz {M : List Nat} {GL : List (Nat × List Value)} {r i n : Nat} {v : List Value} (hM : (decide (GB ≤ r) || M.contains r) = true) (h : rdn (look GL H r) i n = some v) : rdn (look GL (frz M 0 H) r) i n = some v := by
  unfold look at *
  split
  · rename_i hg; rwa [if_pos hg] at h
  · rename_i hg
    rw [if_neg hg] at h
    split
    · rename_i hb; rw [if_pos hb] at h; exact h
    · rename_i hb
      rw [if_neg hb] at h
      rw [frz_get, Nat.zero_add]
      simp only [hg, decide_false, Bool.false_or] at hM
      cases ho : H[r]? with
      | none => rw [ho] at h; exact h
      | some o => rw [ho] at h; cases o <;> simp_all [frz1, rdn]
theorem stepP_frz {M : List Nat} {GL : List (Nat × List Value)} {K : Env → Prop} {i : I} (hf : frzI M t i) (h : stepP GL H t i K) : stepP GL (frz M 0 H) t i K := by
  cases i <;> first | exact h | skip
  case ld d x =>
    simp only [stepP, frzI] at *
    cases hx : oe t x <;> simp only [hx] at h hf <;> try exact h
    rename_i p
    cases p <;> simp only at h hf
    rename_i b
    cases hr : rd (look GL H b.block) b.off <;> simp only [hr] at h
    dsimp only; rw [rd_frz hf hr]; exact h
  case ldn d x n =>
    simp only [stepP, frzI] at *
    cases hx : oe t x <;> simp only [hx] at h hf <;> try exact h
    rename_i p
    cases p <;> simp only at h hf
    rename_i b
    cases hr : rdn (look GL H b.block) b.off n <;> simp only [hr] at h
    dsimp only; rw [rdn_frz hf hr]; exact h
/-- Regions are forgotten. -/
theorem Sat.less {w : World} {H' : List SB} (h : Sat X w ρ H) (hl : H'.length = H.length) (hh : ∀ (r : Nat) (o : SB), H'[r]? = some o → o = .dead ∨ H[r]? = some o) : Sat X w ρ H' where
  os := h.os
  tape := h.tape
  output := h.output
  size := h.size
  old := h.old
  len := by rw [hl]; exact h.len
  exp := by rw [hl]; exact h.exp
  ok := fun r p o hp ho => by
    rcases hh r o ho with rfl | ho
    · trivial
    · exact h.ok r p o hp ho
  dist := fun r r' p p' o o' hp hp' ho ho' l l' => by
    rcases hh r o ho with rfl | ho
    · simp [SB.live] at l
    · rcases hh r' o' ho' with rfl | ho'
      · simp [SB.live] at l'
      · exact h.dist r r' p p' o o' hp hp' ho ho' l l'
  own := fun r p o hp ho hw => by
    rcases hh r o ho with rfl | ho
    · simp [SB.wr] at hw
    · exact h.own r p o hp ho hw
  lt := fun r p o hp ho l => by
    rcases hh r o ho with rfl | ho
    · simp [SB.live] at l
    · exact h.lt r p o hp ho l
  rdo := fun r p o hp ho l => by
    rcases hh r o ho with rfl | ho
    · simp [SB.live] at l
    · exact h.rdo r p o hp ho l
  glob := h.glob
  globD := fun r p o g c hp ho hw => by
    rcases hh r o ho with rfl | ho
    · simp [SB.wr] at hw
    · exact h.globD r p o g c hp ho hw
theorem Sat.frz {w : World} (h : Sat X w ρ H) (M : List Nat) : Sat X w ρ (SX.frz M 0 H) := by
  refine h.less frz_length fun r o ho => ?_
  rw [frz_get] at ho
  cases h1 : H[r]? <;> simp only [h1, Option.map_none, Option.map_some, Option.some.injEq] at ho <;> try (cases ho; done)
  subst ho
  rcases frz1_cases (M.contains (0 + r)) _ with e | ⟨e, _⟩
  · exact .inl e
  · rw [e]; exact .inr rfl
theorem SBok.back' {w w1 : World} {e : Ren} {p : Nat × Nat} {o : SB} {b : Bool} (h : SBok (ρ ++ e) w p (frz1 b o)) (h1 : SBok ρ w1 p (frz1 b o)) : SBok ρ w p (frz1 b o) := by
  rcases frz1_cases b o with e1 | ⟨e1, hb⟩
  · rw [e1]; trivial
  · subst hb
    cases o <;> simp only [frz1, if_true] at *
    · obtain ⟨cs, h2, h3⟩ := h
      obtain ⟨cs', h4, h5⟩ := h1
      have := VRl.unique _ _ _ h2 (h4.mono e)
      subst this
      exact ⟨cs, h4, h3⟩
    · exact h
    all_goals trivial
theorem frz_pre {M : List Nat} {H0 : List SB} (hl : H0.length ≤ H.length) (ha : ∀ r ∈ M, H[r]? = H0[r]?) {r : Nat} {o : SB} (hr : r < H0.length) (ho : (SX.frz M 0 H)[r]? = some o) : (SX.frz M 0 H0)[r]? = some o ∨ o = .dead := by
  rw [frz_get] at *
  by_cases hM : r ∈ M
  · rw [ha r hM] at ho; exact .inl ho
  · cases h1 : H[r]? <;> simp only [h1, Option.map_none, Option.map_some, Option.some.injEq] at ho <;> try (cases ho; done)
    subst ho
    rcases frz1_cases (M.contains (0 + r)) _ with e | ⟨_, e⟩
    · exact .inr e
    · exact absurd (by simpa using e) hM
/-- What is held is held again. -/
theorem Sat.held {w w1 : World} {e : Ren} {M : List Nat} {H0 : List SB} (h1 : Sat X w1 ρ (SX.frz M 0 H0)) (h : Sat X w (ρ ++ e) H) (hl : H0.length ≤ H.length) (ha : ∀ r ∈ M, H[r]? = H0[r]?) : Sat X w ρ (SX.frz M 0 H0) := by
  have h' := h.frz M
  have hlen : ρ.length = H0.length := by have := h1.len; rwa [frz_length] at this
  have up : ∀ {r : Nat} {p : Nat × Nat}, ρ[r]? = some p → (ρ ++ e)[r]? = some p := fun hp => by
    rw [List.getElem?_append_left (List.getElem?_eq_some_iff.1 hp).1]; exact hp
  have eqf : ∀ {r : Nat} {o : SB}, (SX.frz M 0 H0)[r]? = some o → (SX.frz M 0 H)[r]? = some o ∨ o = .dead := fun {r o} ho => by
    rw [frz_get] at *
    by_cases hM : r ∈ M
    · rw [ha r hM]; exact .inl ho
    · cases h2 : H0[r]? <;> simp only [h2, Option.map_none, Option.map_some, Option.some.injEq] at ho <;> try (cases ho; done)
      subst ho
      rcases frz1_cases (M.contains (0 + r)) _ with e | ⟨_, e⟩
      · exact .inr e
      · exact absurd (by simpa using e) hM
  exact {
    os := h.os, tape := h.tape, output := h.output, size := h.size, old := h.old, len := h1.len, exp := h1.exp, glob := h.glob
    ok := fun r p o hp ho => by
      rcases eqf ho with ho' | rfl
      · have k1 := h'.ok r p o (up hp) ho'
        have k2 := h1.ok r p o hp ho
        rw [frz_get] at ho
        cases h2 : H0[r]? <;> simp only [h2, Option.map_none, Option.map_some, Option.some.injEq] at ho <;> try (cases ho; done)
        subst ho
        exact SBok.back' k1 k2
      · trivial
    dist := fun r r' p p' o o' hp hp' ho ho' l l' => by
      rcases eqf ho with ho | rfl
      · rcases eqf ho' with ho' | rfl
        · exact h'.dist r r' p p' o o' (up hp) (up hp') ho ho' l l'
        · simp [SB.live] at l'
      · simp [SB.live] at l
    own := fun r p o hp ho hw => by
      rcases eqf ho with ho | rfl
      · exact h'.own r p o (up hp) ho hw
      · simp [SB.wr] at hw
    lt := fun r p o hp ho l => by
      rcases eqf ho with ho | rfl
      · exact h'.lt r p o (up hp) ho l
      · simp [SB.live] at l
    rdo := fun r p o hp ho l => by
      rcases eqf ho with ho | rfl
      · exact h'.rdo r p o (up hp) ho l
      · simp [SB.live] at l
    globD := fun r p o g c hp ho hw => by
      rcases eqf ho with ho | rfl
      · exact h'.globD r p o g c (up hp) ho hw
      · simp [SB.wr] at hw }
/-- In a world where the held regions are held, and whose other regions nobody looks at. -/
theorem Sat.pad {w : World} {e : Ren} {M : List Nat} {H0 : List SB} (h : Sat X w ρ (SX.frz M 0 H0)) (hl : H0.length ≤ H.length) (hle : (ρ ++ e).length = H.length) (ha : ∀ r ∈ M, H[r]? = H0[r]?) : Sat X w (ρ ++ e) (SX.frz M 0 H) := by
  have hlen : ρ.length = H0.length := by have := h.len; rwa [frz_length] at this
  have key : ∀ {r : Nat} {p : Nat × Nat} {o : SB}, (ρ ++ e)[r]? = some p → (SX.frz M 0 H)[r]? = some o → o = .dead ∨ (ρ[r]? = some p ∧ (SX.frz M 0 H0)[r]? = some o) := fun {r p o} hp ho => by
    by_cases hr : r < H0.length
    · rcases frz_pre hl ha hr ho with ho | rfl
      · refine .inr ⟨?_, ho⟩
        rwa [List.getElem?_append_left (by omega)] at hp
      · exact .inl rfl
    · rw [frz_get] at ho
      by_cases hM : r ∈ M
      · rw [ha r hM, List.getElem?_eq_none (by omega)] at ho; cases ho
      · cases h2 : H[r]? <;> simp only [h2, Option.map_none, Option.map_some, Option.some.injEq] at ho <;> try (cases ho; done)
        subst ho
        rcases frz1_cases (M.contains (0 + r)) _ with e | ⟨_, e⟩
        · exact .inl e
        · exact absurd (by simpa using e) hM
  exact {
    os := h.os, tape := h.tape, output := h.output, size := h.size, old := h.old, glob := h.glob
    len := by rw [frz_length]; exact hle
    exp := by have := h.exp; rw [frz_length] at *; omega
    ok := fun r p o hp ho => by
      rcases key hp ho with rfl | ⟨hp, ho⟩
      · trivial
      · exact (h.ok r p o hp ho).mono
    dist := fun r r' p p' o o' hp hp' ho ho' l l' => by
      rcases key hp ho with rfl | ⟨hp, ho⟩
      · simp [SB.live] at l
      · rcases key hp' ho' with rfl | ⟨hp', ho'⟩
        · simp [SB.live] at l'
        · exact h.dist r r' p p' o o' hp hp' ho ho' l l'
    own := fun r p o hp ho hw => by
      rcases key hp ho with rfl | ⟨hp, ho⟩
      · simp [SB.wr] at hw
      · exact h.own r p o hp ho hw
    lt := fun r p o hp ho l => by
      rcases key hp ho with rfl | ⟨hp, ho⟩
      · simp [SB.live] at l
      · exact h.lt r p o hp ho l
    rdo := fun r p o hp ho l => by
      rcases key hp ho with rfl | ⟨hp, ho⟩
      · simp [SB.live] at l
      · exact h.rdo r p o hp ho l
    globD := fun r p o g c hp ho hw => by
      rcases key hp ho with rfl | ⟨hp, ho⟩
      · simp [SB.wr] at hw
      · exact h.globD r p o g c hp ho hw }
theorem agree_iff {H H' : List SB} : ∀ {M : List Nat}, agree H H' M ↔ ∀ r ∈ M, H'[r]? = H[r]?
  | [] => by simp [agree]
  | r :: M => by simp [agree, agree_iff (M := M)]
theorem HP.top {ops : List Oper} {p : HP} {fuel : Nat} {listed : Array Bool} {pl : PL} (hc : compM P N ops.toArray p fuel listed true = some pl) (hi : idsH p ≠ []) : Region.ready .any ops.toArray listed = idsH p ∧ compM P N ops.toArray p fuel listed false = some pl := by
  cases p with
  | done => simp [idsH] at hi
  | take i r => simp [idsH] at hi
  | op i r =>
    cases fuel with
    | zero => simp [compM] at hc
    | succ fuel =>
      simp only [compM, Bool.not_true, Bool.false_or, Bool.not_false, Bool.true_or, if_true] at *
      split at hc
      · rename_i h; exact ⟨by simpa [idsH] using h, hc⟩
      · cases hc
  | both x y =>
    simp only [compM, Bool.not_true, Bool.false_or, Bool.not_false, Bool.true_or, if_true] at *
    split at hc
    · rename_i h; exact ⟨by simpa using h, hc⟩
    · cases hc
theorem idsH_ne {p : HP} {ops : List Oper} {fuel : Nat} {listed : Array Bool} {pl : PL} (hc : compM P N ops.toArray p fuel listed false = some pl) : idsH p ≠ [] := by
  induction p generalizing pl with
  | done => cases fuel <;> simp [compM] at hc
  | take i r => cases fuel <;> simp [compM] at hc
  | op i r => simp [idsH]
  | both x y ihx ihy =>
    simp only [compM, Bool.not_false, Bool.true_or, if_true] at hc
    cases h1 : compM P N ops.toArray x fuel listed false <;> simp only [h1] at hc <;> try (cases hc; done)
    have := ihx h1
    simp [idsH, this]
theorem mix_ok {ops : List Oper} {Q : Exit → Act → World → Prop} {M : List Nat} {ρ0 : Ren} {H0 : List SB} {w1 : World} (hsel : Region.noSelect ops.toArray = true) (h0 : Sat X w1 ρ0 (SX.frz M 0 H0)) :
    ∀ (p : HP) {top : Bool} {fuel : Nat} {listed : Array Bool} {pl : PL} {t : Env} {H : List SB} {K : Env → List SB → Prop} {e : Ren} {a : Act} {w : World},
      compM P N ops.toArray p fuel listed top = some pl → evL X N P M pl t H K → Sat X w (ρ0 ++ e) H → Slots N (ρ0 ++ e) t a → H0.length ≤ H.length → (∀ r ∈ M, H[r]? = H0[r]?) →
      (∀ w' a' e' t' H', Sat X w' (ρ0 ++ e') H' → Slots N (ρ0 ++ e') t' a' → a'.defers = a.defers → K t' H' → Q .normal a' w') →
      (top = true → wpAnyH P .any ops.toArray (NoP Q) (fun w => Sat X w ρ0 (SX.frz M 0 H0)) fuel listed a w) ∧
      (top = false → ∃ f, fuel = f + 1 ∧ ∀ i ∈ idsH p, wpOp P ops.toArray (NoP Q) i (fun a' w' => Sat X w' ρ0 (SX.frz M 0 H0) ∧ wpAnyH P .any ops.toArray (NoP Q) (fun w => Sat X w ρ0 (SX.frz M 0 H0)) f (listed.setIfInBounds i true) a' w') a w) := by
  intro p
  induction p with
  | done =>
    intro top fuel listed pl t H K e a w hc hev hw hs hl ha hn
    cases top with
    | false => cases fuel <;> simp [compM] at hc
    | true =>
      refine ⟨fun _ => ?_, fun h => by cases h⟩
      have hc' : Region.ready .any ops.toArray listed = [] ∧ pl = .done := by
        cases fuel <;> simp only [compM] at hc <;> (split at hc <;> first | (cases hc; done) | (rename_i h; simp only [Option.some.injEq] at hc; exact ⟨by simpa using h, hc.symm⟩))
      obtain ⟨h1, rfl⟩ := hc'
      exact wpAnyH_done (Q := NoP Q) h1 (show NoP Q .normal a w from hn w a e t H hw hs rfl hev) fuel
  | take i r ih =>
    intro top fuel listed pl t H K e a w hc hev hw hs hl ha hn
    cases top with
    | false => cases fuel <;> simp [compM] at hc
    | true =>
      refine ⟨fun _ => ?_, fun h => by cases h⟩
      cases fuel with
      | zero => simp [compM] at hc
      | succ fuel =>
        simp only [compM] at hc
        split at hc <;> try (cases hc; done)
        rename_i hb
        simp only [Bool.and_eq_true] at hb
        cases hg : (ops.toArray[i]?).bind (compG P N ops) <;> cases hl2 : compM P N ops.toArray r fuel (listed.setIfInBounds i true) true <;> simp only [hg, hl2] at hc <;> try (cases hc; done)
        rename_i g pl'
        simp only [Option.some.injEq] at hc; subst hc
        obtain ⟨o, ho, hg⟩ := Option.bind_eq_some_iff.1 hg
        obtain ⟨h1, h2, h3⟩ := comp_g hg
        have hS := Sat.held h0 hw hl ha
        have go : ∀ {v : Value} {t' : Env}, YieldsIf P ops.toArray (fun w => Sat X w ρ0 (SX.frz M 0 H0)) o v a → Slots N (ρ0 ++ e) t' (a.put o.dst v) → evL X N P M pl' t' H K →
            wpAnyH P .any ops.toArray (NoP Q) (fun w => Sat X w ρ0 (SX.frz M 0 H0)) (fuel + 1) listed a w := fun {v t'} hy hs' hk =>
          wpAnyH_take ho hsel hb.2 hb.1 (fun _ _ _ h => h) hy hS ((ih hl2 hk hw hs' hl ha (fun w2 a2 e2 t2 H2 hw2 hs2 hd2 hk2 => hn w2 a2 e2 t2 H2 hw2 hs2 (hd2.trans (put_defers _ _ _)) hk2)).1 rfl)
        have step : Region.wanted o (yielded ops.toArray a.tmps) = true → (isP g.i = true ∧ frzI M t g.i ∧ stepP X.GL H t g.i fun t' => evL X N P M pl' t' H K) →
            wpAnyH P .any ops.toArray (NoP Q) (fun w => Sat X w ρ0 (SX.frz M 0 H0)) (fuel + 1) listed a w := fun hwt ⟨hp, hf, hst⟩ => by
          have hpad : ∀ {w : World}, Sat X w ρ0 (SX.frz M 0 H0) → Sat X w (ρ0 ++ e) (SX.frz M 0 H) := fun h => h.pad hl (by rw [hw.len]) ha
          obtain ⟨x, t', hk, hs', hr⟩ := pure_ok h1 hp h2 (hpad h0) hs (stepP_frz hf hst)
          exact go (.inl ⟨hwt, fun w hSw => hr w (hpad hSw)⟩) hs' hk
        obtain ⟨gg, gi⟩ := g
        rcases h3 with ⟨h3, h4⟩ | ⟨j, b, s, h3, h4, h5⟩
        · simp only at h4; subst h4
          exact step (wanted_none h3 _) hev
        · simp only at h5; subst h5
          simp only [evL] at hev
          cases hx : gv (get t s) b <;> simp only [hx] at hev
          rename_i x
          have hwant := wanted_of hs h3 h4 hx
          cases x
          · rw [br_false] at hev
            exact go (.inr ⟨by rw [hwant], rfl⟩) (skipd_ok hs (hard_dst h1) h2) hev
          · rw [br_true] at hev
            exact step (by rw [hwant]) hev
  | op i r ih =>
    have main : ∀ {fuel : Nat} {listed : Array Bool} {pl : PL} {t : Env} {H : List SB} {K : Env → List SB → Prop} {e : Ren} {a : Act} {w : World},
      compM P N ops.toArray (.op i r) fuel listed false = some pl → evL X N P M pl t H K → Sat X w (ρ0 ++ e) H → Slots N (ρ0 ++ e) t a → H0.length ≤ H.length → (∀ r ∈ M, H[r]? = H0[r]?) →
      (∀ w' a' e' t' H', Sat X w' (ρ0 ++ e') H' → Slots N (ρ0 ++ e') t' a' → a'.defers = a.defers → K t' H' → Q .normal a' w') →
      ∃ f, fuel = f + 1 ∧ wpOp P ops.toArray (NoP Q) i (fun a' w' => Sat X w' ρ0 (SX.frz M 0 H0) ∧ wpAnyH P .any ops.toArray (NoP Q) (fun w => Sat X w ρ0 (SX.frz M 0 H0)) f (listed.setIfInBounds i true) a' w') a w := by
      intro fuel listed pl t H K e a w hc hev hw hs hl ha hn
      cases fuel with
      | zero => simp [compM] at hc
      | succ fuel =>
        refine ⟨fuel, rfl, ?_⟩
        simp only [compM, Bool.not_false, Bool.true_or, if_true] at hc
        cases hg : (ops.toArray[i]?).bind (compG P N ops) <;> cases hl2 : compM P N ops.toArray r fuel (listed.setIfInBounds i true) true <;> simp only [hg, hl2] at hc <;> try (cases hc; done)
        rename_i g pl'
        simp only [Option.some.injEq] at hc; subst hc
        obtain ⟨o, ho, hg⟩ := Option.bind_eq_some_iff.1 hg
        obtain ⟨h1, h2, h3⟩ := comp_g hg
        have next : ∀ {w' : World} {x : Value} {e' : Ren} {t' : Env} {H' : List SB}, Sat X w' (ρ0 ++ e ++ e') H' → Slots N (ρ0 ++ e ++ e') t' (a.put o.dst x) → agree H H' M ∧ evL X N P M pl' t' H' K →
            Sat X w' ρ0 (SX.frz M 0 H0) ∧ wpAnyH P .any ops.toArray (NoP Q) (fun w => Sat X w ρ0 (SX.frz M 0 H0)) fuel (listed.setIfInBounds i true) (a.put o.dst x) w' := fun {w' x e' t' H'} hw' hs' ⟨hag, hk⟩ => by
          have ha' : ∀ r ∈ M, H'[r]? = H0[r]? := fun r hr => (agree_iff.1 hag r hr).trans (ha r hr)
          have hl' : H0.length ≤ H'.length := by have h3 := hw'.len; have h4 := hw.len; simp only [List.length_append] at h3 h4; omega
          rw [List.append_assoc] at hw' hs'
          exact ⟨Sat.held h0 hw' hl' ha', (ih hl2 hk hw' hs' hl' ha' (fun w2 a2 e2 t2 H2 hw2 hs2 hd2 hk2 => hn w2 a2 e2 t2 H2 hw2 hs2 (hd2.trans (put_defers _ _ _)) hk2)).1 rfl⟩
        have step : step1 X N P t H (fun t' H' => agree H H' M ∧ evL X N P M pl' t' H' K) g.i →
            o.wp P a w (fun a' w' => Sat X w' ρ0 (SX.frz M 0 H0) ∧ wpAnyH P .any ops.toArray (NoP Q) (fun w => Sat X w ρ0 (SX.frz M 0 H0)) fuel (listed.setIfInBounds i true) a' w') (NoP Q) := fun hst =>
          step1_ok h1 h2 hst w a (ρ0 ++ e) hw hs _ _ fun w' x e' t' H' hw' hs' hk => next hw' hs' hk
        unfold wpOp
        rw [ho]
        simp only
        obtain ⟨gg, gi⟩ := g
        rcases h3 with ⟨h3, h4⟩ | ⟨j, b, s, h3, h4, h5⟩
        · simp only at h4; subst h4
          rw [if_pos (wanted_none h3 _)]
          exact .inl (step hev)
        · simp only at h5; subst h5
          simp only [evL] at hev
          cases hx : gv (get t s) b <;> simp only [hx] at hev
          rename_i x
          rw [wanted_of hs h3 h4 hx]
          cases x
          · rw [br_false] at hev
            rw [if_neg (by simp)]
            refine next (x := undef) (e' := []) (t' := _) (H' := H) (by simpa using hw) ?_ ⟨agree_iff.2 fun _ _ => rfl, hev⟩
            simpa using skipd_ok hs (hard_dst h1) h2
          · rw [br_true] at hev
            rw [if_pos rfl]
            exact .inl (step hev)
    intro top fuel listed pl t H K e a w hc hev hw hs hl ha hn
    cases top with
    | false =>
      refine ⟨fun h => (by cases h), fun _ => ?_⟩
      obtain ⟨f, hf, h⟩ := main hc hev hw hs hl ha hn
      exact ⟨f, hf, fun j hj => by simp only [idsH, List.mem_singleton] at hj; subst hj; exact h⟩
    | true =>
      refine ⟨fun _ => ?_, fun h => by cases h⟩
      obtain ⟨hr, hc⟩ := HP.top hc (by simp [idsH])
      obtain ⟨f, rfl, h⟩ := main hc hev hw hs hl ha hn
      exact wpAnyH_all hr (by simp [idsH]) fun j hj => by simp only [idsH, List.mem_singleton] at hj; subst hj; exact h
  | both x y ihx ihy =>
    have main : ∀ {fuel : Nat} {listed : Array Bool} {pl : PL} {t : Env} {H : List SB} {K : Env → List SB → Prop} {e : Ren} {a : Act} {w : World},
      compM P N ops.toArray (.both x y) fuel listed false = some pl → evL X N P M pl t H K → Sat X w (ρ0 ++ e) H → Slots N (ρ0 ++ e) t a → H0.length ≤ H.length → (∀ r ∈ M, H[r]? = H0[r]?) →
      (∀ w' a' e' t' H', Sat X w' (ρ0 ++ e') H' → Slots N (ρ0 ++ e') t' a' → a'.defers = a.defers → K t' H' → Q .normal a' w') →
      ∃ f, fuel = f + 1 ∧ ∀ i ∈ idsH (.both x y), wpOp P ops.toArray (NoP Q) i (fun a' w' => Sat X w' ρ0 (SX.frz M 0 H0) ∧ wpAnyH P .any ops.toArray (NoP Q) (fun w => Sat X w ρ0 (SX.frz M 0 H0)) f (listed.setIfInBounds i true) a' w') a w := by
      intro fuel listed pl t H K e a w hc hev hw hs hl ha hn
      simp only [compM, Bool.not_false, Bool.true_or, if_true] at hc
      cases h1 : compM P N ops.toArray x fuel listed false <;> cases h2 : compM P N ops.toArray y fuel listed false <;> simp only [h1, h2] at hc <;> try (cases hc; done)
      simp only [Option.some.injEq] at hc; subst hc
      obtain ⟨f, hf, k1⟩ := (ihx h1 hev.1 hw hs hl ha hn).2 rfl
      obtain ⟨f', hf', k2⟩ := (ihy h2 hev.2 hw hs hl ha hn).2 rfl
      have : f = f' := by omega
      subst this
      refine ⟨f, hf, fun i hi => ?_⟩
      simp only [idsH, List.mem_append] at hi
      exact hi.elim (k1 i) (k2 i)
    intro top fuel listed pl t H K e a w hc hev hw hs hl ha hn
    cases top with
    | false => exact ⟨fun h => (by cases h), fun _ => main hc hev hw hs hl ha hn⟩
    | true =>
      refine ⟨fun _ => ?_, fun h => by cases h⟩
      have hne : idsH (.both x y) ≠ [] := by
        simp only [compM] at hc
        split at hc <;> try (cases hc; done)
        cases h1 : compM P N ops.toArray x fuel listed false <;> simp only [h1] at hc <;> try (cases hc; done)
        have := idsH_ne h1
        simp [idsH, this]
      obtain ⟨hr, hc⟩ := HP.top hc hne
      obtain ⟨f, rfl, h⟩ := main hc hev hw hs hl ha hn
      exact wpAnyH_all hr hne h
end
end Go.SX
