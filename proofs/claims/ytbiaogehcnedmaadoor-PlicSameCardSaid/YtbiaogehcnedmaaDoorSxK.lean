/-
  Code and functions: why the instructions tell what a function does.
-/
import Derived.Test.YtbiaogehcnedmaaDoorSxJb
import Derived.Deep.LoopGhost
set_option linter.unusedVariables false
set_option linter.unusedSimpArgs false
namespace Go.SX
open Go

mutual
theorem VR.back {θ : Nat → Nat} {ρ ρ' : Ren} (hle : ∀ r p, ρ.at? (θ r) = some p → ρ'.at? r = some p) : ∀ (v x : Value), VR ρ (rid θ v) x → VR ρ' v x
  | .pointer (some a), x, h => by simp only [VR, rid] at *; obtain ⟨b, ⟨p, h1, h2, h3⟩, h4⟩ := h; exact ⟨b, ⟨p, hle _ _ h1, h2, h3⟩, h4⟩
  | .slice (some a) n c, x, h => by simp only [VR, rid] at *; obtain ⟨b, ⟨p, h1, h2, h3⟩, h4⟩ := h; exact ⟨b, ⟨p, hle _ _ h1, h2, h3⟩, h4⟩
  | .map (some r), x, h => by simp only [VR, rid] at *; obtain ⟨b, h1, h2⟩ := h; exact ⟨b, hle _ _ h1, h2⟩
  | .agg ⟨l⟩, x, h => by simp only [VR, VRa, rid, ridA] at *; obtain ⟨ds, h1, h2⟩ := h; exact ⟨ds, VRl.back hle l ds h1, h2⟩
  | .tuple ⟨l⟩, x, h => by simp only [VR, VRa, rid, ridA] at *; obtain ⟨ds, h1, h2⟩ := h; exact ⟨ds, VRl.back hle l ds h1, h2⟩
  | .func (.func f) ⟨l⟩ ⟨m⟩, x, h => by simp only [VR, VRa, rid, ridA] at *; obtain ⟨a', b', h1, h2, h3⟩ := h; exact ⟨a', b', VRl.back hle l a' h1, VRl.back hle m b' h2, h3⟩
  | .func (.yield l) a b, x, h => by simp only [VR, rid] at *; obtain ⟨k, h1, h2⟩ := h; exact ⟨k, hle _ _ h1, h2⟩
  | .bool b, x, h => by simpa only [VR, rid] using h
  | .int k n, x, h => by simpa only [VR, rid] using h
  | .string s, x, h => by simpa only [VR, rid] using h
  | .pointer none, x, h => by simpa only [VR, rid] using h
  | .slice none n c, x, h => by simpa only [VR, rid] using h
  | .map none, x, h => by simpa only [VR, rid] using h
  | .nilFunc, x, h => by simpa only [VR, rid] using h
  | .nilIface, x, h => by simpa only [VR, rid] using h
  | .float k n, x, h => by simp only [VR, rid] at h
  | .complex k a b, x, h => by simp only [VR, rid] at h
  | .chan r, x, h => by simp only [VR, rid] at h
  | .iface t v, x, h => by simp only [VR, rid] at h
  | .func (.method n) a b, x, h => by simp only [VR, rid] at h
  | .func (.methodOf t n) a b, x, h => by simp only [VR, rid] at h
  | .func (.via t p f q) a b, x, h => by simp only [VR, rid] at h
theorem VRl.back {θ : Nat → Nat} {ρ ρ' : Ren} (hle : ∀ r p, ρ.at? (θ r) = some p → ρ'.at? r = some p) : ∀ (v x : List Value), VRl ρ (ridL θ v) x → VRl ρ' v x
  | [], [], h => by simp only [VRl]
  | v :: vs, x :: xs, h => by simp only [VRl, ridL] at *; exact ⟨VR.back hle v x h.1, VRl.back hle vs xs h.2⟩
  | [], x :: xs, h => by simp only [VRl, ridL] at h
  | v :: vs, [], h => by simp only [VRl, ridL] at h
end
theorem MER.back {θ : Nat → Nat} {ρ ρ' : Ren} (hle : ∀ r p, ρ.at? (θ r) = some p → ρ'.at? r = some p) : ∀ (v x : List MapEntry), MER ρ (ridM θ v) x → MER ρ' v x
  | [], [], h => by simp only [MER]
  | v :: vs, x :: xs, h => by simp only [MER, ridM] at *; exact ⟨⟨VR.back hle _ _ h.1.1, VR.back hle _ _ h.1.2.1, h.1.2.2⟩, MER.back hle vs xs h.2⟩
  | [], x :: xs, h => by simp only [MER, ridM] at h
  | v :: vs, [], h => by simp only [MER, ridM] at h
theorem OR.back {θ : Nat → Nat} {ρ ρ' : Ren} (hle : ∀ r p, ρ.at? (θ r) = some p → ρ'.at? r = some p) (o x : Obj) (h : OR ρ (ridO θ o) x) : OR ρ' o x := by
  cases o with
  | map es cl => obtain ⟨es⟩ := es; simp only [OR, ridO] at *; obtain ⟨es', h1, h2⟩ := h; exact ⟨es', MER.back hle _ _ h1, h2⟩
  | mapIter m a b c => cases m <;> simp only [OR, ridO] at * <;> first | exact h | (obtain ⟨k, h1, h2⟩ := h; exact ⟨k, hle _ _ h1, h2⟩)
  | stringIter s p => simpa only [OR, ridO] using h
  | deferred d => cases d with
    | none => simpa only [OR, ridO] using h
    | some l => cases l <;> simp only [OR, ridO] at * <;> exact h
  | _ => simp only [OR, ridO] at h
theorem SBok.back {θ : Nat → Nat} {ρ ρ' : Ren} (hle : ∀ r p, ρ.at? (θ r) = some p → ρ'.at? r = some p) {w : World} {p : Nat × Nat} {o : SB} (h : SBok ρ w p (ridB θ o)) : SBok ρ' w p o := by
  cases o with
  | cells c room wr => obtain ⟨cs, h1, h2⟩ := h; exact ⟨cs, VRl.back hle _ _ h1, h2⟩
  | flat c room wr => exact h
  | obj o => obtain ⟨h0, x, h1, h2⟩ := h; exact ⟨h0, x, h1, OR.back hle _ _ h2⟩
  | dead => trivial
theorem MER.turn {θ : Nat → Nat} {ρ ρ' : Ren} (hle : Ren.le θ ρ ρ') : ∀ (v x : List MapEntry), MER ρ v x → MER ρ' (ridM θ v) x
  | [], [], h => by simp only [MER, ridM]
  | v :: vs, x :: xs, h => by simp only [MER, ridM] at *; exact ⟨⟨VR.turn hle _ _ h.1.1, VR.turn hle _ _ h.1.2.1, h.1.2.2⟩, MER.turn hle vs xs h.2⟩
  | [], x :: xs, h => by simp only [MER] at h
  | v :: vs, [], h => by simp only [MER] at h
theorem OR.turn {θ : Nat → Nat} {ρ ρ' : Ren} (hle : Ren.le θ ρ ρ') (o x : Obj) (h : OR ρ o x) : OR ρ' (ridO θ o) x := by
  cases o with
  | map es cl => obtain ⟨es⟩ := es; simp only [OR, ridO] at *; obtain ⟨es', h1, h2⟩ := h; exact ⟨es', MER.turn hle _ _ h1, h2⟩
  | mapIter m a b c => cases m <;> simp only [OR, ridO] at * <;> first | exact h | (obtain ⟨k, h1, h2⟩ := h; exact ⟨k, hle _ _ h1, h2⟩)
  | stringIter s p => simpa only [OR, ridO] using h
  | deferred d => cases d with
    | none => simpa only [OR, ridO] using h
    | some l => cases l <;> simp only [OR, ridO] at * <;> exact h
  | _ => simp only [OR] at h
theorem SBok.turn {θ : Nat → Nat} {ρ ρ' : Ren} (hle : Ren.le θ ρ ρ') {w : World} {p : Nat × Nat} {o : SB} (h : SBok ρ w p o) : SBok ρ' w p (ridB θ o) := by
  cases o with
  | cells c room wr => obtain ⟨cs, h1, h2⟩ := h; exact ⟨cs, VRl.turn hle _ _ h1, h2⟩
  | flat c room wr => exact h
  | obj o => obtain ⟨h0, x, h1, h2⟩ := h; exact ⟨h0, x, h1, OR.turn hle _ _ h2⟩
  | dead => trivial
theorem ridB_live (θ : Nat → Nat) (o : SB) : (ridB θ o).live = o.live := by cases o <;> rfl
theorem ridB_wr (θ : Nat → Nat) (o : SB) : (ridB θ o).wr = o.wr := by cases o <;> rfl

section
variable {X : Cx} {N : Nat} {P : Program} {ρ : Ren} {H : List SB} {t : Env} {a : Act} {w : World}
theorem selH_length {θ : Nat → Nat} : ∀ {is : List Nat} {H' : List SB}, selH θ H is H' → is.length = H'.length
  | [], [], _ => rfl
  | i :: is, o :: os, h => by simp only [selH] at h; simp [selH_length h.2]
  | [], o :: os, h => by simp only [selH] at h
  | i :: is, [], h => by simp only [selH] at h
theorem selH_get {θ : Nat → Nat} : ∀ {is : List Nat} {H' : List SB}, selH θ H is H' → ∀ {j : Nat} {o : SB}, H'[j]? = some o → ∃ i, is[j]? = some i ∧ (o = .dead ∨ H[i]? = some (ridB θ o))
  | [], [], _, j, o, e => by simp at e
  | i :: is, o :: os, h, 0, o', e => by simp only [selH] at h; simp at e; subst e; exact ⟨i, by simp, h.1⟩
  | i :: is, o :: os, h, j + 1, o', e => by simp only [selH] at h; simp at e; simpa using selH_get h.2 e
  | [], o :: os, h, _, _, _ => by simp only [selH] at h
  | i :: is, [], h, _, _, _ => by simp only [selH] at h
def selR (ρ : Ren) (is : List Nat) : Ren := is.map fun i => (ρ[i]?).getD (0, 0)
theorem selR_get {is : List Nat} {j : Nat} {p : Nat × Nat} (h : (selR ρ is)[j]? = some p) : ∃ i, is[j]? = some i ∧ p = (ρ[i]?).getD (0, 0) := by
  unfold selR at h
  rw [List.getElem?_map] at h
  cases hi : is[j]? <;> simp [hi] at h
  exact ⟨_, rfl, h.symm⟩
theorem sel_le {is : List Nat} (hbad : ∀ i ∈ is, i < BAD) : ∀ r p, ρ.at? (sel is r) = some p → (selR ρ is).at? r = some p := by
  intro r p h
  unfold sel at h
  unfold Ren.at? at *
  split at h
  · rename_i hg; rw [if_pos hg]; simpa [hg] using h
  · rename_i hg
    split at h
    · rename_i hb; subst hb; simp [BAD, GB] at h
    · rename_i hb
      rw [if_neg hg, if_neg hb]
      cases hi : is[r]? with
      | none => simp [hi, BAD, GB] at h
      | some i =>
        have hlt := hbad i (List.mem_of_getElem? hi)
        simp only [hi, Option.getD_some] at h
        rw [if_neg (by unfold GB; unfold BAD at hlt; omega), if_neg (by omega)] at h
        unfold selR
        simp [hi, h]
theorem Sat.sel (h : Sat X w ρ H) {is : List Nat} {H' : List SB} (hn : is.take X.n = List.range X.n) (hnd : is.Nodup) (hbad : ∀ i ∈ is, i < BAD) (hs : selH (SX.sel is) H is H') :
    Sat X w (selR ρ is) H' ∧ (selR ρ is).take X.n = ρ.take X.n := by
  have hlen := selH_length hs
  have get : ∀ {r : Nat} {p : Nat × Nat} {o : SB}, (selR ρ is)[r]? = some p → H'[r]? = some o → o.live = true → ∃ i, is[r]? = some i ∧ ρ[i]? = some p ∧ H[i]? = some (ridB (SX.sel is) o) := by
    intro r p o hp ho hl
    obtain ⟨i, hi, hp'⟩ := selR_get hp
    obtain ⟨i', hi', ho'⟩ := selH_get hs ho
    rw [hi] at hi'; cases hi'
    rcases ho' with rfl | ho'
    · simp [SB.live] at hl
    · have hlt : i < ρ.length := by rw [h.len]; exact (List.getElem?_eq_some_iff.1 ho').1
      refine ⟨i, hi, ?_, ho'⟩
      rw [hp']
      simp [hlt]
  have nd : ∀ {r r' : Nat} {i : Nat}, is[r]? = some i → is[r']? = some i → r = r' := by
    intro r r' i h1 h2
    obtain ⟨k1, e1⟩ := List.getElem?_eq_some_iff.1 h1
    obtain ⟨k2, e2⟩ := List.getElem?_eq_some_iff.1 h2
    rcases Nat.lt_trichotomy r r' with hlt | heq | hlt
    · exact absurd (e1.trans e2.symm) (List.pairwise_iff_getElem.1 hnd r r' k1 k2 hlt)
    · exact heq
    · exact absurd (e2.trans e1.symm) (List.pairwise_iff_getElem.1 hnd r' r k2 k1 hlt)
  refine ⟨⟨h.os, h.tape, h.output, h.size, h.old, ?_, ?_, ?_, ?_, ?_, ?_, ?_, h.glob, ?_⟩, ?_⟩
  · simp [selR, hlen]
  · have : (is.take X.n).length = X.n := by rw [hn]; simp
    simp at this; omega
  · intro r p o hp ho
    by_cases hl : o.live = true
    · obtain ⟨i, hi, hpi, hoi⟩ := get hp ho hl
      exact SBok.back (sel_le hbad) (h.ok i p _ hpi hoi)
    · cases o <;> simp [SB.live] at hl; trivial
  · intro r r' p p' o o' hp hp' ho ho' hl hl' hw e
    obtain ⟨i, hi, hpi, hoi⟩ := get hp ho hl
    obtain ⟨i', hi', hpi', hoi'⟩ := get hp' ho' hl'
    have := h.dist i i' p p' _ _ hpi hpi' hoi hoi' (by rw [ridB_live]; exact hl) (by rw [ridB_live]; exact hl') (by rw [ridB_wr]; exact hw) e
    subst this
    exact nd hi hi'
  · intro r p o hp ho hw
    obtain ⟨i, hi, hpi, hoi⟩ := get hp ho (by cases o <;> simp_all [SB.wr, SB.live])
    exact h.own i p _ hpi hoi (by rw [ridB_wr]; exact hw)
  · intro r p o hp ho hl
    obtain ⟨i, hi, hpi, hoi⟩ := get hp ho hl
    exact h.lt i p _ hpi hoi (by rw [ridB_live]; exact hl)
  · intro r p o hp ho hl
    obtain ⟨i, hi, hpi, hoi⟩ := get hp ho hl
    exact h.rdo i p _ hpi hoi (by rw [ridB_live]; exact hl)
  · intro r p o g c hp ho hw hg
    obtain ⟨i, hi, hpi, hoi⟩ := get hp ho (by cases o <;> simp_all [SB.wr, SB.live])
    exact h.globD i p _ g c hpi hoi (by rw [ridB_wr]; exact hw) hg
  · unfold selR
    rw [← List.map_take, hn]
    apply List.ext_getElem?
    intro i
    have hle : X.n ≤ ρ.length := by rw [h.len]; exact h.exp
    rw [List.getElem?_map, List.getElem?_take]
    by_cases hi : i < X.n
    · rw [if_pos hi]
      simp [hi, show i < ρ.length from by omega]
    · rw [if_neg hi]
      simp [hi]
theorem selE_get {θ : Nat → Nat} : ∀ {t' : Env}, selE θ t t' → ∀ k, known (get t' k) = true → get t k = rid θ (get t' k)
  | [], _, k, hk => by simp [get, known] at hk
  | (k', v) :: t', h, k, hk => by
    simp only [selE] at h
    simp only [get] at *
    by_cases e : k' = k
    · rw [if_pos e] at *; subst e; exact h.1 hk
    · rw [if_neg e] at *; exact selE_get h.2 k hk
theorem known_rid {θ : Nat → Nat} {v : Value} (h : known v = true) : known (rid θ v) = true := by
  cases v with
  | chan c => simp [known] at h
  | pointer p => cases p <;> simp [rid, known]
  | slice p n c => cases p <;> simp [rid, known]
  | map p => cases p <;> simp [rid, known]
  | func f a b => cases f <;> simp [rid, known]
  | _ => simp [rid, known]
theorem Slots.sel (hs : Slots N ρ t a) {is : List Nat} {t' : Env} (hbad : ∀ i ∈ is, i < BAD) (h : selE (SX.sel is) t t') : Slots N (selR ρ is) t' a := by
  refine ⟨hs.size, fun k hk => ?_⟩
  have e := selE_get h k hk
  obtain ⟨x, h1, h2⟩ := hs.at k (by rw [e]; exact known_rid hk)
  rw [e] at h2
  exact ⟨x, h1, VR.back (sel_le hbad) _ _ h2⟩

/-! ### Code -/
def W (X : Cx) (N : Nat) (P : Program) (c : Code) (t : Env) (H : List SB) (Q : Exit → Env → List SB → Prop) : Prop :=
  ∀ w a ρ, Sat X w ρ H → Slots N ρ t a → ∀ Q' : Exit → Act → World → Prop,
    (∀ e w' a' ρ' t' H', Sat X w' ρ' H' → ρ'.take X.n = ρ.take X.n → Slots N ρ' t' a' → a'.defers = a.defers → Q e t' H' → Q' e a' w') → c.wp P Q' a w
theorem take_app (h : Sat X w ρ H) (e : Ren) : (ρ ++ e).take X.n = ρ.take X.n := by
  have : X.n ≤ ρ.length := by rw [h.len]; exact h.exp
  rw [List.take_append_of_le_length this]
theorem ev_ok : ∀ {c : Code} {h : Hint} {ic : IC} {t : Env} {H : List SB} {Q : Exit → Env → List SB → Prop}, compC P N c h = some ic → ev X N P ic t H Q → W X N P c t H Q := by
  intro c
  induction c with
  | skip =>
    intro h ic t H Q hc hev w a ρ hw hs Q' hq
    simp only [compC, Option.some.injEq] at hc; subst hc
    exact wp_skip (hq _ w a ρ t H hw rfl hs rfl hev)
  | label l =>
    intro h ic t H Q hc hev w a ρ hw hs Q' hq
    simp only [compC, Option.some.injEq] at hc; subst hc
    exact wp_label (hq _ w a ρ t H hw rfl hs rfl hev)
  | exit id =>
    intro h ic t H Q hc hev w a ρ hw hs Q' hq
    simp only [compC, Option.some.injEq] at hc; subst hc
    exact wp_exit (hq _ w a ρ t H hw rfl hs rfl hev)
  | ret =>
    intro h ic t H Q hc hev w a ρ hw hs Q' hq
    simp only [compC, Option.some.injEq] at hc; subst hc
    exact wp_ret (hq _ w a ρ t H hw rfl hs rfl hev)
  | seq x y ihx ihy =>
    intro h ic t H Q hc hev w a ρ hw hs Q' hq
    cases h <;> simp only [compC] at hc <;> try (cases hc; done)
    · rename_i ks h k
      cases h1 : compC P N x h <;> cases h2 : compC P N y k <;> simp only [h1, h2] at hc <;> try (cases hc; done)
      simp only [Option.some.injEq] at hc; subst hc
      refine wp_seq (ihx h1 hev w a ρ hw hs _ ?_)
      intro e w' a' ρ' t' H' hw' hρ hs' hd hQ
      cases e with
      | normal =>
        refine ihy h2 hQ w' a' ρ' hw' ?_ _ ?_
        · cases ks with
          | none => exact hs'
          | some ks => exact hs'.keep ks
        · intro e2 w2 a2 ρ2 t2 H2 hw2 hρ2 hs2 hd2 hQ2
          exact hq e2 w2 a2 ρ2 t2 H2 hw2 (hρ2.trans hρ) hs2 (hd2.trans hd) hQ2
      | _ => exact hq _ w' a' ρ' t' H' hw' hρ hs' hd hQ
    · rename_i ks h k
      cases h1 : compC P N x h <;> cases h2 : compC P N y k <;> simp only [h1, h2] at hc <;> try (cases hc; done)
      simp only [Option.some.injEq] at hc; subst hc
      simp only [ev] at hev
      obtain ⟨J, hev, hJ⟩ := hev
      refine wp_seq (ihx h1 hev w a ρ hw hs _ ?_)
      intro e w' a' ρ' t' H' hw' hρ hs' hd hQ
      cases e with
      | normal =>
        obtain ⟨js, t2, H2, j1, j2, j3, j4, j5, j6⟩ := hQ
        obtain ⟨hw2, hρ2⟩ := hw'.sel j1 j2 j3 j4
        refine ihy h2 (hJ t2 H2 j6) w' a' _ hw2 ((hs'.keep ks).sel j3 j5) _ ?_
        intro e2 w2 a2 ρ3 t3 H3 hw3 hρ3 hs3 hd3 hQ3
        exact hq e2 w2 a2 ρ3 t3 H3 hw3 (hρ3.trans (hρ2.trans hρ)) hs3 (hd3.trans hd) hQ3
      | _ => exact hq _ w' a' ρ' t' H' hw' hρ hs' hd hQ
  | cond c x y ihx ihy =>
    intro h ic t H Q hc hev w a ρ hw hs Q' hq
    cases h <;> simp only [compC] at hc <;> try (cases hc; done)
    rename_i h k
    cases h1 : compC P N x h <;> cases h2 : compC P N y k <;> simp only [h1, h2] at hc <;> try (cases hc; done)
    split at hc <;> try (cases hc; done)
    rename_i hx
    simp only [Option.some.injEq] at hc; subst hc
    simp only [ev] at hev
    cases ex : oe t c <;> simp only [ex] at hev
    rename_i b
    have e1 := eval_bool hs hx ex
    cases b
    · rw [br_false] at hev
      exact wp_cond_false e1 (ihy h2 hev w a ρ hw hs _ hq)
    · rw [br_true] at hev
      exact wp_cond_true e1 (ihx h1 hev w a ρ hw hs _ hq)
  | block id x ih =>
    intro h ic t H Q hc hev w a ρ hw hs Q' hq
    cases h <;> simp only [compC] at hc <;> try (cases hc; done)
    rename_i h
    cases h1 : compC P N x h <;> simp only [h1] at hc <;> try (cases hc; done)
    simp only [Option.some.injEq] at hc; subst hc
    simp only [ev] at hev
    refine wp_block (ih h1 hev w a ρ hw hs _ ?_)
    intro e w' a' ρ' t' H' hw' hρ hs' hd hQ
    cases e with
    | exit id' =>
      simp only at hQ
      simp only [Exit.inBlock]
      split at hQ
      · rename_i he; rw [if_pos he]; exact hq _ w' a' ρ' t' H' hw' hρ hs' hd hQ
      · rename_i he; rw [if_neg he]; exact hq _ w' a' ρ' t' H' hw' hρ hs' hd hQ
    | _ => exact hq _ w' a' ρ' t' H' hw' hρ hs' hd hQ
  | scope x ih =>
    intro h ic t H Q hc hev w a ρ hw hs Q' hq
    cases h <;> simp only [compC] at hc <;> try (cases hc; done)
    rename_i h
    cases h1 : compC P N x h <;> simp only [h1] at hc <;> try (cases hc; done)
    simp only [Option.some.injEq] at hc; subst hc
    simp only [ev] at hev
    refine wp_scope_straight (ih h1 hev w a ρ hw hs _ ?_)
    intro e w' a' ρ' t' H' hw' hρ hs' hd hQ
    cases e with
    | goto l => exact hQ.elim
    | _ => exact hq _ w' a' ρ' t' H' hw' hρ hs' hd hQ
  | loop x ih =>
    intro h ic t H Q hc hev w a ρ hw hs Q' hq
    cases h <;> simp only [compC] at hc <;> try (cases hc; done)
    rename_i ks h
    cases h1 : compC P N x h <;> simp only [h1] at hc <;> try (cases hc; done)
    simp only [Option.some.injEq] at hc; subst hc
    simp only [ev] at hev
    obtain ⟨I, ⟨is, t0, H0, i1, i2, i3, i4, i5, m0, i6⟩, round⟩ := hev
    obtain ⟨hw0, hρ0⟩ := hw.sel i1 i2 i3 i4
    have hs0 := (hs.keep ks).sel i3 i5
    refine wp_loop_ghost (fun m a' w' => ∃ ρ' t' H', Sat X w' ρ' H' ∧ ρ'.take X.n = ρ.take X.n ∧ Slots N ρ' t' a' ∧ a'.defers = a.defers ∧ I t' H' m) m0 ⟨_, t0, H0, hw0, hρ0, hs0, rfl, i6⟩ ?_
    rintro m a1 w1 ⟨ρ1, t1, H1, hw1, hρ1, hs1, hd1, hI⟩
    refine ih h1 (round t1 H1 m hI) w1 a1 ρ1 hw1 hs1 _ ?_
    intro e w' a' ρ' t' H' hw' hρ' hs' hd' hQ
    cases e with
    | normal =>
      obtain ⟨js, t2, H2, j1, j2, j3, j4, j5, m2, hlt, j6⟩ := hQ
      obtain ⟨hw2, hρ2⟩ := hw'.sel j1 j2 j3 j4
      exact ⟨m2, hlt, _, t2, H2, hw2, hρ2.trans (hρ'.trans hρ1), hs'.sel j3 j5, hd'.trans hd1, j6⟩
    | _ => exact hq _ w' a' ρ' t' H' hw' (hρ'.trans hρ1) hs' (hd'.trans hd1) hQ
  | region id ops draw =>
    intro h ic t H Q hc hev w a ρ hw hs Q' hq
    cases draw with
    | false =>
      have hc : (match compL P N ops.toList ops.toList with | some l => some (IC.reg l) | none => none) = some ic := by cases h <;> exact hc
      cases h1 : compL P N ops.toList ops.toList <;> simp only [h1] at hc <;> try (cases hc; done)
      simp only [Option.some.injEq] at hc; subst hc
      simp only [ev] at hev
      refine wp_region_list ?_
      have := ops_ok (Q := Q') h1 hev hw hs (fun w' a' e t' H' hw' hs' hd' hQ => hq _ w' a' _ t' H' hw' (take_app hw e) hs' hd' hQ)
      simpa using this
    | true =>
      cases h <;> simp only [compC] at hc <;> try (cases hc; done)
      · rename_i n
        split at hc <;> try (cases hc; done)
        rename_i hb
        simp only [Bool.and_eq_true] at hb
        cases h1 : compL P N ops.toList (ops.toList.take n) <;> cases h2 : compL P N ops.toList (ops.toList.drop n) <;> simp only [h1, h2] at hc <;> try (cases hc; done)
        simp only [Option.some.injEq] at hc; subst hc
        simp only [ev] at hev
        have key : (Code.region id ops.toList.toArray true).wp P Q' a w := by
          refine wp_region_still_tail n hb.1 (by simpa using hb.2) ?_
          refine head_ok h1 hev hw.drew hs ?_
          intro a' t' hs' hd' hK
          exact ops_ok h2 hK hw.drew hs' fun w2 a2 e t2 H2 hw2 hs2 hd2 hQ => hq _ w2 a2 _ t2 H2 hw2 (take_app hw e) hs2 (hd2.trans hd') hQ
        simpa using key
      · split at hc <;> try (cases hc; done)
        rename_i hb
        simp only [Bool.and_eq_true] at hb
        cases h1 : compL P N ops.toList ops.toList <;> simp only [h1] at hc <;> try (cases hc; done)
        simp only [Option.some.injEq] at hc; subst hc
        simp only [ev] at hev
        refine wp_region_quiet (C := fun w' => Sat X w' ρ H) hb.1 hb.2 hw.drew ?_
        have := quiet_ok (Q := fun a' => ∀ w', Sat X w' ρ H → Q' .normal a' w') h1 hev hw hs (fun a' t' hs' hd' hK w' hw' => hq _ w' a' ρ t' H hw' rfl hs' hd' hK)
        simpa using this
      · rename_i z p
        split at hc <;> try (cases hc; done)
        rename_i hb
        simp only [Bool.and_eq_true] at hb
        cases h1 : compM P N ops p ops.size (Array.replicate ops.size false) true <;> simp only [h1] at hc <;> try (cases hc; done)
        rename_i pl
        simp only [Option.some.injEq] at hc; subst hc
        simp only [ev] at hev
        have hev : ∃ M, evL X N P M pl t H fun t' H' => Q .normal t' H' := by
          split at hev
          · exact ⟨[], hev⟩
          · exact hev
        obtain ⟨M, hev⟩ := hev
        refine Code.wp_mono NoP.imp (wp_region_held (S := fun w => Sat X w ρ (SX.frz M 0 H)) hb.1 ?_)
        have := (mix_ok (ops := ops.toList) (Q := Q') (M := M) (ρ0 := ρ) (H0 := H) (w1 := w) (by simpa using hb.2) (hw.frz M) p (by simpa using h1) hev (e := []) (w := w.drew) (by simpa using hw.drew) (by simpa using hs) (Nat.le_refl _) (fun _ _ => rfl)
          (fun w' a' e' t' H' hw' hs' hd' hK => hq _ w' a' _ t' H' hw' (take_app hw e') hs' hd' hK)).1 rfl
        simpa using this
  | _ => intro h ic t H Q hc; cases h <;> simp only [compC] at hc <;> cases hc
end
end Go.SX
