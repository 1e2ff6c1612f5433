/-
  A contract at a call: the callee sees the regions that it is handed, under numbers of its own.
-/
import Derived.Test.YtbiaogehcnedmaaDoorSxL
set_option linter.unusedVariables false
set_option linter.unusedSimpArgs false
namespace Go.SX
open Go

def setMany (H : List SB) : List Nat → List SB → List SB
  | i :: is, o :: os => setMany (H.set i o) is os
  | _, _ => H
def news (k : Nat) : List SB → List Nat
  | [] => []
  | _ :: os => k :: news (k + 1) os
def deads (H : List SB) : List Nat → List SB
  | [] => H
  | i :: is => deads (H.set i .dead) is
/-- The caller's heap behind a call: 'is': the regions handed over; the first n stay where they are, the others are consumed; what the callee made stands behind. -/
def mergeT (H : List SB) (is : List Nat) (n : Nat) (H' : List SB) : Nat → Nat := sel (is.take n ++ news H.length (H'.drop n))
def merge (H : List SB) (is : List Nat) (n : Nat) (H' : List SB) : List SB :=
  setMany (deads H (is.drop n)) (is.take n) ((H'.take n).map (ridB (mergeT H is n H'))) ++ (H'.drop n).map (ridB (mergeT H is n H'))

section
variable {X : Cx} {N : Nat} {P : Program} {ρ : Ren} {H : List SB} {t : Env} {a : Act} {w : World}
theorem deads_length : ∀ {is : List Nat} {H : List SB}, (deads H is).length = H.length
  | [], _ => rfl
  | i :: is, H => by simp only [deads]; rw [deads_length]; simp
theorem setMany_length : ∀ {is : List Nat} {os H : List SB}, (setMany H is os).length = H.length
  | [], _, _ => by simp [setMany]
  | i :: is, [], _ => by simp [setMany]
  | i :: is, o :: os, H => by simp only [setMany]; rw [setMany_length]; simp
theorem news_length : ∀ {k : Nat} {os : List SB}, (news k os).length = os.length
  | _, [] => rfl
  | k, o :: os => by simp [news, news_length]
theorem news_get : ∀ {k : Nat} {os : List SB} {j : Nat}, j < os.length → (news k os)[j]? = some (k + j)
  | _, [], _, h => by simp at h
  | k, o :: os, 0, _ => by simp [news]
  | k, o :: os, j + 1, h => by simp at h; simp only [news, List.getElem?_cons_succ]; rw [news_get h]; congr 1; omega
/-- A region behind: one of those that were set, or one of the old ones. -/
theorem deads_get : ∀ {is : List Nat} {H : List SB} {s : Nat} {o : SB}, (deads H is)[s]? = some o → o = .dead ∨ (s ∉ is ∧ H[s]? = some o)
  | [], H, s, o, h => .inr ⟨by simp, h⟩
  | i :: is, H, s, o, h => by
    simp only [deads] at h
    rcases deads_get h with h | ⟨h1, h2⟩
    · exact .inl h
    · rcases getElem?_set' h2 with ⟨rfl, rfl⟩ | ⟨h3, h4⟩
      · exact .inl rfl
      · exact .inr ⟨by simp [h3, h1], h4⟩
theorem setMany_get : ∀ {is : List Nat} {os H : List SB} {s : Nat} {o : SB}, is.Nodup → is.length = os.length → (setMany H is os)[s]? = some o →
    (∃ j : Nat, is[j]? = some s ∧ os[j]? = some o) ∨ (s ∉ is ∧ H[s]? = some o)
  | [], [], H, s, o, _, _, h => .inr ⟨by simp, by simpa [setMany] using h⟩
  | i :: is, u :: os, H, s, o, hn, hl, h => by
    simp only [setMany] at h
    simp only [List.nodup_cons] at hn
    rcases setMany_get hn.2 (by simpa using hl) h with ⟨j, h1, h2⟩ | ⟨h1, h2⟩
    · exact .inl ⟨j + 1, by simpa using h1, by simpa using h2⟩
    · rcases getElem?_set' h2 with ⟨rfl, rfl⟩ | ⟨h3, h4⟩
      · exact .inl ⟨0, by simp, by simp⟩
      · exact .inr ⟨by simp [h3, h1], h4⟩
  | [], _ :: _, _, _, _, _, h, _ => by simp at h
  | _ :: _, [], _, _, _, _, h, _ => by simp at h

theorem mergeT_lt {is : List Nat} {n r i : Nat} {H' : List SB} (hn : n ≤ is.length) (hr : r < n) (hb : r < BAD) (hi : is[r]? = some i) : mergeT H is n H' r = i := by
  unfold mergeT sel
  have hnl : (is.take n).length = n := by simp; omega
  rw [if_neg (by unfold GB; unfold BAD at hb; omega), if_neg (by omega), List.getElem?_append_left (by omega), List.getElem?_take, if_pos hr, hi]
  rfl
theorem mergeT_ge {is : List Nat} {n r : Nat} {H' : List SB} (hn : n ≤ is.length) (hr : n ≤ r) (hr2 : r < H'.length) (hb : r < BAD) : mergeT H is n H' r = H.length + (r - n) := by
  unfold mergeT sel
  have hnl : (is.take n).length = n := by simp; omega
  rw [if_neg (by unfold GB; unfold BAD at hb; omega), if_neg (by omega), List.getElem?_append_right (by omega), hnl, news_get (by simp; omega)]
  rfl
set_option maxHeartbeats 1000000 in
theorem call_of_spec {f : FuncId} {n : Nat} {vs vs0 : List Value} {H0 : List SB} {R : Value → List SB → Prop} {K : Value → List SB → Prop} (hspec : Spec P X.GL f n vs0 H0 R) (is : List Nat)
    (hnd : is.Nodup) (hin : ∀ i ∈ is, i < H.length) (hlt : H.length < BAD) (hn : n ≤ is.length) (hs : selH (sel is) H is H0) (hv : vs = ridL (sel is) vs0)
    (hk : ∀ v H', R v H' → n ≤ H'.length → H.length + H'.length < BAD ∧ K (rid (mergeT H is n H') v) (merge H is n H')) : CallK X P f vs H K := by
  intro w ρ xs hw hxs
  have hlen := selH_length hs
  have hbad : ∀ i ∈ is, i < BAD := fun i hi => Nat.lt_trans (hin i hi) hlt
  -- the callee's own context
  let D0 : Nat → Prop := fun b => ∃ i p o, i ∈ is ∧ ρ[i]? = some p ∧ H[i]? = some o ∧ o.live = true ∧ o.wr = true ∧ p.1 = b
  let E0 : Nat → Prop := fun b => ∃ i p o, i ∈ is ∧ ρ[i]? = some p ∧ H[i]? = some o ∧ o.live = true ∧ p.1 = b
  have get : ∀ {r : Nat} {p : Nat × Nat} {o : SB}, (selR ρ is)[r]? = some p → H0[r]? = some o → o.live = true → ∃ i, is[r]? = some i ∧ ρ[i]? = some p ∧ H[i]? = some (ridB (sel is) o) := by
    intro r p o hp ho hl
    obtain ⟨i, hi, hp'⟩ := selR_get hp
    obtain ⟨i', hi', ho'⟩ := selH_get hs ho
    rw [hi] at hi'; cases hi'
    rcases ho' with rfl | ho'
    · simp [SB.live] at hl
    · have hlt : i < ρ.length := by rw [hw.len]; exact (List.getElem?_eq_some_iff.1 ho').1
      refine ⟨i, hi, ?_, ho'⟩
      rw [hp']
      simp [hlt]
  have nd : ∀ {r r' : Nat} {i : Nat}, is[r]? = some i → is[r']? = some i → r = r' := by
    intro r r' i h1 h2
    obtain ⟨k1, e1⟩ := List.getElem?_eq_some_iff.1 h1
    obtain ⟨k2, e2⟩ := List.getElem?_eq_some_iff.1 h2
    rcases Nat.lt_trichotomy r r' with hlt | heq | hlt
    · exact absurd (e1.trans e2.symm) (List.pairwise_iff_getElem.1 hnd r r' k1 k2 hlt)
    · exact heq
    · exact absurd (e2.trans e1.symm) (List.pairwise_iff_getElem.1 hnd r' r k2 k1 hlt)
  have hw0 : Sat ⟨w, D0, E0, X.GL, n⟩ w (selR ρ is) H0 := by
    refine ⟨rfl, rfl, rfl, Nat.le_refl _, fun _ _ _ => rfl, by simp [selR, hlen], by simp only; omega, ?_, ?_, ?_, ?_, ?_, hw.glob, ?_⟩
    · intro r p o hp ho
      by_cases hl : o.live = true
      · obtain ⟨i, hi, hpi, hoi⟩ := get hp ho hl
        exact SBok.back (sel_le hbad) (hw.ok i p _ hpi hoi)
      · cases o <;> simp [SB.live] at hl; trivial
    · intro r r' p p' o o' hp hp' ho ho' hl hl' hwr e
      obtain ⟨i, hi, hpi, hoi⟩ := get hp ho hl
      obtain ⟨i', hi', hpi', hoi'⟩ := get hp' ho' hl'
      have := hw.dist i i' p p' _ _ hpi hpi' hoi hoi' (by rw [ridB_live]; exact hl) (by rw [ridB_live]; exact hl') (by rw [ridB_wr]; exact hwr) e
      subst this
      exact nd hi hi'
    · intro r p o hp ho hwr
      have hl : o.live = true := by cases o <;> simp_all [SB.wr, SB.live]
      obtain ⟨i, hi, hpi, hoi⟩ := get hp ho hl
      exact .inl ⟨i, p, _, List.mem_of_getElem? hi, hpi, hoi, by rw [ridB_live]; exact hl, by rw [ridB_wr]; exact hwr, rfl⟩
    · intro r p o hp ho hl
      obtain ⟨i, hi, hpi, hoi⟩ := get hp ho hl
      exact hw.lt i p _ hpi hoi (by rw [ridB_live]; exact hl)
    · intro r p o hp ho hl
      obtain ⟨i, hi, hpi, hoi⟩ := get hp ho hl
      exact .inr (.inl ⟨i, p, _, List.mem_of_getElem? hi, hpi, hoi, by rw [ridB_live]; exact hl, rfl⟩)
    · intro r p o g c hp ho hwr hg
      obtain ⟨i, hi, hpi, hoi⟩ := get hp ho (by cases o <;> simp_all [SB.wr, SB.live])
      exact hw.globD i p _ g c hpi hoi (by rw [ridB_wr]; exact hwr) hg
  have hxs0 : VRl (selR ρ is) vs0 xs := VRl.back (sel_le hbad) _ _ (by rw [← hv]; exact hxs)
  refine (hspec w D0 E0 w (selR ρ is) xs hw0 hxs0).mono ?_
  rintro e w' ⟨v, x, ρ', H', rfl, hvx, hw', hρ', hR⟩
  have hexp : n ≤ H'.length := hw'.exp
  obtain ⟨hsz, hK⟩ := hk v H' hR hexp
  have hlen' : ρ'.length = H'.length := hw'.len
  -- where a region of the callee's stands behind the call
  have hnl : (is.take n).length = n := by simp; omega
  have place : ∀ {r : Nat} {p : Nat × Nat}, ρ'[r]? = some p → r < H'.length → (ρ ++ ρ'.drop n)[mergeT H is n H' r]? = some p ∧ mergeT H is n H' r < BAD := by
    intro r p hp hr
    by_cases hrn : r < n
    · have hri : r < is.length := by omega
      rw [mergeT_lt hn hrn (by omega) (List.getElem?_eq_getElem hri)]
      have hi := hin is[r] (List.getElem_mem hri)
      refine ⟨?_, by omega⟩
      rw [List.getElem?_append_left (by rw [hw.len]; exact hi)]
      have h1 : (ρ'.take n)[r]? = some p := by rw [List.getElem?_take, if_pos hrn]; exact hp
      rw [hρ', List.getElem?_take, if_pos hrn] at h1
      obtain ⟨i, h2, h3⟩ := selR_get h1
      rw [List.getElem?_eq_getElem hri] at h2
      cases h2
      rw [h3]
      have : is[r] < ρ.length := by rw [hw.len]; exact hi
      simp [this]
    · rw [mergeT_ge hn (by omega) hr (by omega)]
      refine ⟨?_, by omega⟩
      rw [List.getElem?_append_right (by rw [hw.len]; omega), hw.len, List.getElem?_drop]
      rw [show n + (H.length + (r - n) - H.length) = r from by omega]
      exact hp
  have hle : Ren.le (mergeT H is n H') ρ' (ρ ++ ρ'.drop n) := by
    intro r p h
    unfold Ren.at? at h ⊢
    split at h
    · rename_i hg
      have : mergeT H is n H' r = r := by unfold mergeT sel; rw [if_pos hg]
      rw [this, if_pos hg]; exact h
    · rename_i hg
      split at h
      · cases h
      · obtain ⟨h1, h2⟩ := place h (by rw [← hlen']; exact (List.getElem?_eq_some_iff.1 h).1)
        rw [if_neg (by unfold GB; unfold BAD at h2; omega), if_neg (by omega)]
        exact h1
  -- a region behind: the callee's, or one that it did not see
  have cases' : ∀ {s : Nat} {o : SB}, (merge H is n H')[s]? = some o → o.live = true →
      (∃ r q, H'[r]? = some q ∧ o = ridB (mergeT H is n H') q ∧ s = mergeT H is n H' r ∧ r < H'.length) ∨ (s ∉ is ∧ H[s]? = some o) := by
    intro s o h hl
    unfold merge at h
    have hA : (setMany (deads H (is.drop n)) (is.take n) ((H'.take n).map (ridB (mergeT H is n H')))).length = H.length := by rw [setMany_length, deads_length]
    rcases Nat.lt_or_ge s H.length with hs' | hs'
    · rw [List.getElem?_append_left (by rw [hA]; exact hs')] at h
      rcases setMany_get (List.Sublist.nodup (List.take_sublist n is) hnd) (by simp; omega) h with ⟨j, h1, h2⟩ | ⟨h1, h2⟩
      · rw [List.getElem?_map] at h2
        cases hj : (H'.take n)[j]? <;> simp [hj] at h2
        rename_i q
        rw [List.getElem?_take] at hj h1
        split at hj
        · rename_i hjn
          rw [if_pos hjn] at h1
          have hjl : j < H'.length := (List.getElem?_eq_some_iff.1 hj).1
          refine .inl ⟨j, q, hj, h2.symm, ?_, hjl⟩
          exact (mergeT_lt hn hjn (by omega) h1).symm
        · cases hj
      · rcases deads_get h2 with rfl | ⟨h3, h4⟩
        · simp [SB.live] at hl
        · refine .inr ⟨fun hm => ?_, h4⟩
          rw [← List.take_append_drop n is] at hm
          rcases List.mem_append.1 hm with hm | hm
          · exact h1 hm
          · exact h3 hm
    · rw [List.getElem?_append_right (by rw [hA]; exact hs'), hA, List.getElem?_map] at h
      cases hj : (H'.drop n)[s - H.length]? <;> simp [hj] at h
      rename_i q
      rw [List.getElem?_drop] at hj
      have hjl := (List.getElem?_eq_some_iff.1 hj).1
      refine .inl ⟨_, q, hj, h.symm, ?_, hjl⟩
      rw [mergeT_ge hn (by omega) hjl (by omega)]
      omega
  -- a region that the callee did not see lies in no block that it may touch
  have apart : ∀ {s : Nat} {p : Nat × Nat} {o : SB}, s ∉ is → ρ[s]? = some p → H[s]? = some o → o.live = true → ¬ D0 p.1 := by
    rintro s p o hs' hp ho hl ⟨i, q, u, hi, hq, hu, hul, huw, e⟩
    have := hw.dist i s q p u o hq hp hu ho hul hl huw e
    subst this
    exact hs' hi
  have apart2 : ∀ {s : Nat} {p : Nat × Nat} {o : SB}, s ∉ is → ρ[s]? = some p → H[s]? = some o → o.wr = true → ¬ E0 p.1 := by
    rintro s p o hs' hp ho hwr ⟨i, q, u, hi, hq, hu, hul, e⟩
    have := hw.dist s i p q o u hp hq ho hu (by cases o <;> simp_all [SB.wr, SB.live]) hul hwr e.symm
    subst this
    exact hs' hi
  have oldp : ∀ {s : Nat} {p : Nat × Nat}, s < H.length → (ρ ++ ρ'.drop n)[s]? = some p → ρ[s]? = some p := by
    intro s p hs' hp
    rwa [List.getElem?_append_left (by rw [hw.len]; exact hs')] at hp
  have oldlt : ∀ {s : Nat} {o : SB}, H[s]? = some o → s < H.length := fun h => (List.getElem?_eq_some_iff.1 h).1
  have live_of : ∀ {o : SB}, o.wr = true → o.live = true := fun {o} h => by cases o <;> simp_all [SB.wr, SB.live]
  -- the callee's old blocks are the caller's
  have up : ∀ {p : Nat × Nat}, D0 p.1 → X.D p.1 ∨ X.w0.heap.size ≤ p.1 := by
    rintro p ⟨i, q, u, hi, hq, hu, hul, huw, e⟩
    rw [← e]; exact hw.own i q u hq hu huw
  have up2 : ∀ {p : Nat × Nat}, E0 p.1 → X.D p.1 ∨ X.E p.1 ∨ X.w0.heap.size ≤ p.1 := by
    rintro p ⟨i, q, u, hi, hq, hu, hul, e⟩
    rw [← e]; exact hw.rdo i q u hq hu hul
  refine ⟨_, x, ρ'.drop n, merge H is n H', rfl, VR.turn hle v x hvx, ?_, hK⟩
  refine ⟨hw'.os.trans hw.os, hw'.tape.trans hw.tape, hw'.output.trans hw.output, Nat.le_trans hw.size hw'.size, ?_, ?_, ?_, ?_, ?_, ?_, ?_, ?_, hw'.glob, ?_⟩
  · intro b hb hnD
    rw [hw'.old b (Nat.lt_of_lt_of_le hb hw.size) (fun hD => by
      rcases up (p := (b, 0)) hD with h | h
      · exact hnD h
      · simp only at h; omega)]
    exact hw.old b hb hnD
  · simp [merge, setMany_length, deads_length, hw.len, hlen']
  · have := hw.exp
    simp [merge, setMany_length, deads_length]; omega
  · intro s p o hp ho
    by_cases hl : o.live = true
    · rcases cases' ho hl with ⟨r, q, hq, rfl, rfl, hr⟩ | ⟨hs', ho'⟩
      · have hr' : r < ρ'.length := by omega
        obtain ⟨h1, _⟩ := place (List.getElem?_eq_getElem hr') hr
        rw [hp] at h1; cases h1
        exact SBok.turn hle (hw'.ok r _ q (List.getElem?_eq_getElem hr') hq)
      · have hp' := oldp (oldlt ho') hp
        exact SBok.mono (SBok.same (hw'.old _ (hw.lt s p o hp' ho' hl) (apart hs' hp' ho' hl)) (hw.ok s p o hp' ho'))
    · cases o <;> simp [SB.live] at hl; trivial
  · intro s s' p p' o o' hp hp' ho ho' hl hl' hwr e
    rcases cases' ho hl with ⟨r, q, hq, rfl, rfl, hr⟩ | ⟨hs', ho1⟩
    · have hr' : r < ρ'.length := by omega
      obtain ⟨h1, _⟩ := place (List.getElem?_eq_getElem hr') hr
      rw [hp] at h1; cases h1
      rw [ridB_live] at hl
      rw [ridB_wr] at hwr
      rcases cases' ho' hl' with ⟨r2, q2, hq2, rfl, rfl, hr2⟩ | ⟨hs2, ho2⟩
      · have hr2' : r2 < ρ'.length := by omega
        obtain ⟨h1, _⟩ := place (List.getElem?_eq_getElem hr2') hr2
        rw [hp'] at h1; cases h1
        rw [ridB_live] at hl'
        rw [hw'.dist r r2 _ _ q q2 (List.getElem?_eq_getElem hr') (List.getElem?_eq_getElem hr2') hq hq2 hl hl' hwr e]
      · have hp2 := oldp (oldlt ho2) hp'
        rcases hw'.own r _ q (List.getElem?_eq_getElem hr') hq hwr with h | h
        · rw [e] at h; exact absurd h (apart hs2 hp2 ho2 hl')
        · have := hw.lt s' p' o' hp2 ho2 hl'
          simp only at h; omega
    · have hp1 := oldp (oldlt ho1) hp
      rcases cases' ho' hl' with ⟨r2, q2, hq2, rfl, rfl, hr2⟩ | ⟨hs2, ho2⟩
      · have hr2' : r2 < ρ'.length := by omega
        obtain ⟨h1, _⟩ := place (List.getElem?_eq_getElem hr2') hr2
        rw [hp'] at h1; cases h1
        rw [ridB_live] at hl'
        rcases hw'.rdo r2 _ q2 (List.getElem?_eq_getElem hr2') hq2 hl' with h | h | h
        · rw [← e] at h; exact absurd h (apart hs' hp1 ho1 hl)
        · rw [← e] at h; exact absurd h (apart2 hs' hp1 ho1 hwr)
        · have := hw.lt s p o hp1 ho1 hl
          simp only at h; omega
      · exact hw.dist s s' p p' o o' hp1 (oldp (oldlt ho2) hp') ho1 ho2 hl hl' hwr e
  · intro s p o hp ho hwr
    rcases cases' ho (live_of hwr) with ⟨r, q, hq, rfl, rfl, hr⟩ | ⟨hs', ho'⟩
    · have hr' : r < ρ'.length := by omega
      obtain ⟨h1, _⟩ := place (List.getElem?_eq_getElem hr') hr
      rw [hp] at h1; cases h1
      rw [ridB_wr] at hwr
      rcases hw'.own r _ q (List.getElem?_eq_getElem hr') hq hwr with h | h
      · exact up h
      · exact .inr (Nat.le_trans hw.size h)
    · exact hw.own s p o (oldp (oldlt ho') hp) ho' hwr
  · intro s p o hp ho hl
    rcases cases' ho hl with ⟨r, q, hq, rfl, rfl, hr⟩ | ⟨hs', ho'⟩
    · have hr' : r < ρ'.length := by omega
      obtain ⟨h1, _⟩ := place (List.getElem?_eq_getElem hr') hr
      rw [hp] at h1; cases h1
      rw [ridB_live] at hl
      exact hw'.lt r _ q (List.getElem?_eq_getElem hr') hq hl
    · exact Nat.lt_of_lt_of_le (hw.lt s p o (oldp (oldlt ho') hp) ho' hl) hw'.size
  · intro s p o hp ho hl
    rcases cases' ho hl with ⟨r, q, hq, rfl, rfl, hr⟩ | ⟨hs', ho'⟩
    · have hr' : r < ρ'.length := by omega
      obtain ⟨h1, _⟩ := place (List.getElem?_eq_getElem hr') hr
      rw [hp] at h1; cases h1
      rw [ridB_live] at hl
      rcases hw'.rdo r _ q (List.getElem?_eq_getElem hr') hq hl with h | h | h
      · rcases up h with h | h
        · exact .inl h
        · exact .inr (.inr h)
      · exact up2 h
      · exact .inr (.inr (Nat.le_trans hw.size h))
    · exact hw.rdo s p o (oldp (oldlt ho') hp) ho' hl
  · intro s p o g c hp ho hwr hg
    rcases cases' ho (live_of hwr) with ⟨r, q, hq, rfl, rfl, hr⟩ | ⟨hs', ho'⟩
    · have hr' : r < ρ'.length := by omega
      obtain ⟨h1, _⟩ := place (List.getElem?_eq_getElem hr') hr
      rw [hp] at h1; cases h1
      rw [ridB_wr] at hwr
      exact hw'.globD r _ q g c (List.getElem?_eq_getElem hr') hq hwr hg
    · exact hw.globD s p o g c (oldp (oldlt ho') hp) ho' hwr hg
end
end Go.SX
