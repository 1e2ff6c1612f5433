/-
  From a row's reading of its arguments to a symbolic heap, and back: arguments that stay as they were.
-/
import Derived.Test.YtbiaogehcnedmaaDoorSxR
import Derived.ProofKit
import Derived.OpenShut
import Derived.Deep.Slices
import Derived.Lib.LaidTab
import Derived.ChangeSame
set_option linter.unusedVariables false
set_option linter.unusedSimpArgs false
namespace Go.SX
open Go Go.ChangeShapes Go.WideShapes Go.ChangeAt Go.RowKit

/-! ### A reading in a world that holds all that the first held -/
theorem mapM_turn {α β : Type} {f g : α → Option β} : ∀ {l : List α} {ys : List β}, l.mapM f = some ys → (∀ a ∈ l, ∀ y ∈ ys, f a = some y → g a = some y) → l.mapM g = some ys
  | [], ys, h, _ => by simpa using h
  | a :: l, ys, h, hg => by
    simp only [List.mapM_cons, Option.bind_eq_bind, Option.bind_eq_some_iff, Option.pure_def, Option.some.injEq] at h
    obtain ⟨y, hy, zs, hz, rfl⟩ := h
    have h1 := hg a (by simp) y (by simp) hy
    have h2 := mapM_turn hz fun b hb z hz' => hg b (by simp [hb]) z (by simp [hz'])
    simp [List.mapM_cons, h1, h2]
def Keeps (w w' : World) : Prop := ∀ (b : Nat) (o : Obj), w.heap[b]? = some o → w'.heap[b]? = some o
theorem Keeps.cell {w w' : World} (h : Keeps w w') {a : Addr} {v : Value} (hc : w.cell? a = some v) : w'.cell? a = some v := by
  unfold World.cell? at *
  cases ho : w.heap[a.block]? with
  | none => rw [ho] at hc; cases hc
  | some o => rw [h _ _ ho]; rw [ho] at hc; exact hc
theorem Keeps.cells {w w' : World} (h : Keeps w w') {base : Nat} {a : Addr} {n : Nat} {cs : List Value} (hc : w.cells? base a n = some cs) : w'.cells? base a n = some cs := by
  unfold World.cells? at *
  split at hc
  · rename_i hb
    rw [if_pos hb]
    exact mapM_turn hc fun i _ v _ hv => h.cell hv
  · cases hc
/-- The types that these arguments are of. -/
def goodT (P : Program) : Nat → TypeId → Bool
  | 0, _ => false
  | n + 1, t => match P.underlying t with
    | some .bool => true
    | some (.int _) => true
    | some .string => true
    | some (.slice e) => P.cellsOf e != 0 && goodT P n e
    | some (.struct fs) => fs.toList.all fun f => goodT P n f.type
    | some (.array _ e) => goodT P n e
    | _ => false
section
variable {H : Type} {enc : TypeId × Value → H} {P : Program} {W W' : World}
theorem flat_mem {α β : Type} {xs : List α} {f : α → List β} {x : α} (hx : x ∈ xs) {p : β} (hp : p ∈ f x) : p ∈ xs.flatMap f := List.mem_flatMap.2 ⟨x, hx, hp⟩
theorem row_mem {a : Addr} {n : Nat} (hn : n ≠ 0) : ∃ p ∈ MemPlace.row a n, p.block = a.block := by
  obtain ⟨m, rfl⟩ := Nat.exists_eq_succ_of_ne_zero hn
  exact ⟨_, List.mem_map.2 ⟨0, by simp, rfl⟩, rfl⟩
theorem trod_turn (hk : Keeps W W') {sp : Nat → Bool} : ∀ (n : Nat) (t : TypeId), goodT P n t = true → ∀ (fuel : Nat) (cs : List Value) (x : DataW H × List MemPlace),
    DataW.trod enc P W 0 (fun _ => true) true fuel t cs = some x → (∀ p ∈ x.2, sp p.block = true) → DataW.trod enc P W' 0 sp true fuel t cs = some x := by
  intro n
  induction n with
  | zero => intro t h; cases h
  | succ n ih =>
    intro t hg fuel cs x h hs
    have elem : ∀ (a : Addr) (m : Nat) (e : TypeId) (fuel : Nat) (y : DataW H × List MemPlace), goodT P n e = true → (W.cells? 0 a m).bind (DataW.trod enc P W 0 (fun _ => true) true fuel e) = some y → (∀ p ∈ y.2, sp p.block = true) → (W'.cells? 0 a m).bind (DataW.trod enc P W' 0 sp true fuel e) = some y := by
      intro a m e fuel y he hy hp
      obtain ⟨cs, hc, ht⟩ := Option.bind_eq_some_iff.1 hy
      rw [hk.cells hc]
      exact ih e he fuel cs y ht hp
    simp only [goodT] at hg
    split at hg <;> try (cases hg; done)
    · rename_i hu
      obtain ⟨b, rfl, rfl⟩ := DataW.trod_bool hu h
      cases fuel with
      | zero => simp [DataW.trod] at h
      | succ fuel => simp [DataW.trod, hu]
    · rename_i k hu
      obtain ⟨b, rfl, rfl, hw⟩ := DataW.trod_int hu h
      cases fuel with
      | zero => simp [DataW.trod] at h
      | succ fuel => simp [DataW.trod, hu, hw]
    · rename_i hu
      obtain ⟨b, rfl, rfl, hw⟩ := DataW.trod_string hu h
      cases fuel with
      | zero => simp [DataW.trod] at h
      | succ fuel => simp [DataW.trod, hu, hw]
    · rename_i e hu
      simp only [Bool.and_eq_true, bne_iff_ne, ne_eq] at hg
      cases fuel with
      | zero => simp [DataW.trod] at h
      | succ fuel =>
        rcases DataW.trod_slice hu h with ⟨rfl, rfl⟩ | ⟨a, len, cap, elems, rest, m, _, rfl, hx, -⟩
        · simp [DataW.trod, hu]
        · simp only [DataW.trod, hu] at h ⊢
          split at h
          · rename_i hl
            rw [if_pos hl]
            obtain ⟨xs, hm, h⟩ := Option.bind_eq_some_iff.1 h
            obtain ⟨ys, hn, rfl⟩ := Option.map_eq_some_iff.1 h
            rw [if_pos trivial] at hn
            have l1 : xs.length = len := by simpa using Lib.mapM_length hm
            have l2 : ys.length = cap - len := by simpa using Lib.mapM_length hn
            have e1 := mapM_turn hm fun i _ y hy hf => elem _ _ _ _ y hg.2 hf fun p hp => hs p (List.mem_append_right _ (flat_mem (List.mem_append_left _ hy) hp))
            have e2 := mapM_turn hn fun i _ y hy hf => elem _ _ _ _ y hg.2 hf fun p hp => hs p (List.mem_append_right _ (flat_mem (List.mem_append_right _ hy) hp))
            rw [e1, e2]
            by_cases hz : (xs.length + ys.length) * P.cellsOf e = 0
            · have : ys = [] := by
                rcases Nat.mul_eq_zero.1 hz with h0 | h0
                · exact List.eq_nil_of_length_eq_zero (by omega)
                · exact absurd h0 hg.1
              subst this
              simp
            · obtain ⟨p, hp, hb⟩ := row_mem (a := a) hz
              have := hs p (List.mem_append_left _ hp)
              rw [hb] at this
              simp [this]
          · cases h
    · rename_i fs hu
      cases fuel with
      | zero => simp [DataW.trod] at h
      | succ fuel =>
        simp only [DataW.trod, hu] at h ⊢
        split at h
        · rename_i hl
          rw [if_pos hl]
          obtain ⟨xs, hm, rfl⟩ := Option.map_eq_some_iff.1 h
          rw [mapM_turn hm fun f hf y hy hh => ih _ (List.all_eq_true.1 hg f hf) _ _ y hh fun p hp => hs p (flat_mem hy hp)]
          rfl
        · cases h
    · rename_i m e hu
      cases fuel with
      | zero => simp [DataW.trod] at h
      | succ fuel =>
        simp only [DataW.trod, hu] at h ⊢
        split at h
        · rename_i hl
          rw [if_pos hl]
          obtain ⟨xs, hm, rfl⟩ := Option.map_eq_some_iff.1 h
          rw [mapM_turn hm fun f _ y hy hh => ih _ hg _ _ y hh fun p hp => hs p (flat_mem hy hp)]
          rfl
        · cases h
theorem trodAll_turn (hk : Keeps W W') {sp : Nat → Bool} : ∀ {ts : List TypeId} {vs : List Value} {ds : List (DataW H)} {p : List MemPlace}, (ts.all fun t => goodT P 9 t) = true →
    DataW.TrodAll enc P W 0 (fun _ => true) true ts vs ds p → (∀ q ∈ p, sp q.block = true) → DataW.TrodAll enc P W' 0 sp true ts vs ds p
  | [], vs, ds, p, _, h, hs => by
    obtain ⟨rfl, rfl, rfl⟩ := trodAll_nil h
    exact h
  | t :: ts, vs, ds, p, hg, h, hs => by
    obtain ⟨v, vs1, d, ds1, a, b, rfl, rfl, rfl, h1, h2⟩ := trodAll_cons h
    simp only [List.all_cons, Bool.and_eq_true] at hg
    obtain ⟨fuel, h1⟩ := h1
    exact ⟨a, b, ⟨fuel, trod_turn hk _ _ hg.1 _ _ _ h1 fun q hq => hs q (by simp [hq])⟩, trodAll_turn hk hg.2 h2 fun q hq => hs q (by simp [hq]), rfl⟩
/-- A law's end: true, and all stands as it stood. -/
theorem law_post {f : Func} {s : ChangeSpec} {apart fresh handsOn again : Bool} {args : Array Value} {ds gs : List (DataW H)} {before : List MemPlace} {tb : TypeId}
    (hW : DataW.Whole enc P f.params.toList s.vars apart W args.toList ds gs before) (hv : s.vars = []) (hg : (f.params.toList.all fun t => goodT P 9 t) = true)
    (hr : f.resultTypes = #[tb]) (hb : P.underlying tb = some .bool) (hs : s.fn H ds = { results := [.lit (.bool true)], args := ds })
    (hk : ∀ b, b < W.heap.size → W'.heap[b]? = W.heap[b]?) (hos : W'.os = W.os) (hout : W'.output = W.output) : s.post enc P f apart fresh handsOn again W args (.bool true) W' := by
  have hkeep : Keeps W W' := fun b o ho => by
    have hlt : b < W.heap.size := (Array.getElem?_eq_some_iff.1 ho).1
    rw [hk b hlt]; exact ho
  have hlt := hW.lt
  have hold : ∀ p ∈ before, (fun b => decide (b < W.heap.size)) p.block = true := fun p hp => by simpa using hW.lt p hp
  have hW0 := hW
  obtain ⟨p, q, hA, hV, rfl, hz, hn⟩ := hW
  rw [hv] at hV
  obtain ⟨rfl, rfl⟩ := trodVars_none hV
  simp only [List.append_nil] at hz hn hlt hold hW0
  have hargs : ∀ sp : Nat → Bool, (∀ q ∈ p, sp q.block = true) → DataW.TrodAll enc P W' 0 sp true f.params.toList args.toList ds p := fun sp hsp => trodAll_turn hkeep hg hA hsp
  have hres : ∀ (b : Nat) (sp : Nat → Bool) (hd : Bool), DataW.TrodAll enc P W' b sp hd f.resultTypes.toList ((Value.bool true).resultList f.resultTypes.size) [.lit (.bool true)] [] := by
    intro b sp hd
    rw [hr]
    exact trodAll_cons_mk (shut_bool hb _) trodAll_mk0
  have hok : ∀ (j : Nat) (t : TypeId) (r : Value), f.resultTypes[j]? = some t → ((Value.bool true).resultList f.resultTypes.size)[j]? = some r → Value.okWide P W' .any 0 t r := ok_one hr rfl (okWide_bool_mk hb _)
  have hvars : ∀ sp : Nat → Bool, DataW.TrodVars enc P W' sp s.vars ([] : List (DataW H)) [] := fun sp => by rw [hv]; simp [DataW.TrodVars]
  have hfn : s.fn H (ds ++ []) = { results := [.lit (.bool true)], args := ds } := by rw [List.append_nil]; exact hs
  refine ⟨ds, [], p, [], p, [], by simpa using hW0, ?_, ?_, ?_, ?_, fun _ => ⟨hok, [.lit (.bool true)] ++ ds, [], p, ⟨p, [], ?_, hvars _, by simp, ?_, by simpa using hn⟩, fun p hp _ => hp⟩⟩
  · rw [hfn]; exact hres _ _ _
  · rw [hfn]; exact hargs _ hold
  · rw [hfn]; exact hvars _
  · refine ⟨hos, hout, fun i hi => ?_⟩
    rw [hk i hi]
    have ho := Array.getElem?_eq_getElem hi
    rw [ho]
    cases W.heap[i] <;> simp
  · exact trodAll_append (hargs _ (fun _ _ => rfl)) (hres _ _ _)
  · intro b off hp
    have h1 := hz b off hp
    have h2 := hlt _ hp
    unfold World.frozen? at *
    simp only [MemPlace.block] at h2
    rw [hk b h2]; exact h1
/-- A contract over symbolic heaps is a call that leaves all that stood. -/
theorem calls_of_spec {GL : List (Nat × List Value)} {f : FuncId} {n : Nat} {vs xs : List Value} {H : List SB} {ρ : Ren} (hspec : Spec P GL f n vs H (fun v _ => v = .bool true)) (hs : Sat ⟨W, fun _ => False, fun b => b < W.heap.size, GL, n⟩ W ρ H) (hv : VRl ρ vs xs) :
    Calls P f xs.toArray W fun e W' => e = .returned (.bool true) ∧ (∀ b, b < W.heap.size → W'.heap[b]? = W.heap[b]?) ∧ W'.os = W.os ∧ W'.output = W.output := by
  refine (hspec W _ _ W ρ xs hs hv).mono ?_
  rintro e w' ⟨v, x, ρ', H', rfl, hx, hs', _, rfl⟩
  simp only [VR] at hx
  subst hx
  exact ⟨rfl, fun b hb => hs'.old b hb id, hs'.os, hs'.output⟩
end
/-! ### What stands in memory when a call begins -/
theorem cellsAt_of {w : World} {b off : Nat} {c : List Value} (h : ∀ i v, c[i]? = some v → w.cell? ⟨b, off + i, none⟩ = some v) (hne : c ≠ []) : CellsAt w (b, off) c c.length false := by
  have h0 : 0 < c.length := List.length_pos_iff.2 hne
  have h1 := h 0 c[0] (by simp [h0])
  unfold World.cell? at h1
  cases ho : w.heap[b]? with
  | none => rw [ho] at h1; cases h1
  | some o =>
    rw [ho] at h1
    cases o <;> try (cases h1; done)
    rename_i arr e fr
    have hget : ∀ i v, c[i]? = some v → arr[off + i]? = some v := by
      intro i v hi
      have := h i v hi
      unfold World.cell? at this
      rw [ho] at this
      simpa using this
    have hlen : off + c.length ≤ arr.size := by
      have := hget (c.length - 1) (c[c.length - 1]) (List.getElem?_eq_getElem (by omega))
      have := (Array.getElem?_eq_some_iff.1 this).1
      omega
    have hc : (arr.toList.drop off).take c.length = c := by
      apply List.ext_getElem?
      intro i
      by_cases hi : i < c.length
      · have e1 := hget i c[i] (List.getElem?_eq_getElem hi)
        rw [List.getElem?_take, if_pos hi, List.getElem?_drop, List.getElem?_eq_getElem hi]
        simpa using e1
      · rw [List.getElem?_eq_none (by simp; omega), List.getElem?_eq_none (by omega)]
    refine ⟨arr.toList.take off, arr.toList.drop (off + c.length), e, fr, ?_, by simp; omega, by simp, by simp⟩
    rw [ho]
    congr 2
    apply Array.toList_inj.1
    simp only [List.append_assoc]
    conv => lhs; rw [← List.take_append_drop off arr.toList]
    congr 1
    conv => lhs; rw [← List.take_append_drop c.length (arr.toList.drop off), hc, List.drop_drop]
/-- Nothing that is written stands at the start: regions that may be read alone. -/
theorem sat_start {w : World} {GL : List (Nat × List Value)} {ρ : Ren} {H : List SB} {n : Nat} (hl : ρ.length = H.length) (hn : n ≤ H.length) (hw : ∀ o ∈ H, o.wr = false)
    (hok : ∀ (r : Nat) (p : Nat × Nat) (o : SB), ρ[r]? = some p → H[r]? = some o → SBok ρ w p o) (hlt : ∀ (r : Nat) (p : Nat × Nat) (o : SB), ρ[r]? = some p → H[r]? = some o → o.live = true → p.1 < w.heap.size)
    (hg : ∀ g c, (g, c) ∈ GL → leafL c = true ∧ CellsAt w (g, 0) c c.length false) : Sat ⟨w, fun _ => False, fun b => b < w.heap.size, GL, n⟩ w ρ H := by
  have wr : ∀ {r : Nat} {o : SB}, H[r]? = some o → o.wr = true → False := fun h1 h2 => by
    have := hw _ (List.mem_of_getElem? h1)
    rw [this] at h2; cases h2
  exact {
    os := rfl, tape := rfl, output := rfl, size := Nat.le_refl _, old := fun _ _ _ => rfl, len := hl, exp := hn, ok := hok, lt := hlt, glob := hg
    dist := fun r r' p p' o o' _ _ h _ _ _ hwr _ => (wr h hwr).elim
    own := fun r p o _ h hwr => (wr h hwr).elim
    rdo := fun r p o h1 h2 h3 => .inr (.inl (hlt r p o h1 h2 h3))
    globD := fun r p o g c _ h hwr _ => (wr h hwr).elim }

/-! ### Types whose values hold numbers and truths alone -/
inductive CK where
  | b
  | i (k : IntKind)
def fit1 : CK → Value → Prop
  | .b, .bool _ => True
  | .i k, .int k' n => k' = k ∧ (Lit.int k n).wf = true
  | _, _ => False
def FitL : List CK → List Value → Prop
  | [], [] => True
  | k :: ks, v :: vs => fit1 k v ∧ FitL ks vs
  | _, _ => False
theorem FitL.append : ∀ {a b : List CK} {x y : List Value}, FitL a x → FitL b y → FitL (a ++ b) (x ++ y)
  | [], _, [], _, _, h => h
  | k :: ks, _, v :: vs, _, h, h' => ⟨h.1, FitL.append h.2 h'⟩
  | [], _, _ :: _, _, h, _ => h.elim
  | _ :: _, _, [], _, h, _ => h.elim
theorem FitL.length : ∀ {a : List CK} {x : List Value}, FitL a x → x.length = a.length
  | [], [], _ => rfl
  | k :: ks, v :: vs, h => by simp [FitL.length h.2]
  | [], _ :: _, h => h.elim
  | _ :: _, [], h => h.elim
mutual
def flatT (P : Program) : Nat → TypeId → Option (List CK)
  | 0, _ => none
  | n + 1, t => match P.underlying t with
    | some .bool => some [.b]
    | some (.int k) => some [.i k]
    | some (.struct fs) => flatF P n fs.toList 0
    | some (.array m e) => match flatT P n e with
      | some ks => if P.cellsOf e = ks.length then some (List.replicate m ks).flatten else none
      | none => none
    | _ => none
def flatF (P : Program) : Nat → List Field → Nat → Option (List CK)
  | _, [], _ => some []
  | 0, _, _ => none
  | n + 1, f :: r, off => match flatT P n f.type, flatF P n r (off + P.cellsOf f.type) with
    | some a, some b => if f.offset = off ∧ P.cellsOf f.type = a.length then some (a ++ b) else none
    | _, _ => none
end
section
variable {H : Type} {enc : TypeId × Value → H} {P : Program} {W : World} {base : Nat} {sp : Nat → Bool} {held : Bool}
theorem flat_ok : ∀ (n : Nat), (∀ (t : TypeId) (ks : List CK), flatT P n t = some ks → ∀ (fuel : Nat) (cs : List Value) (x : DataW H × List MemPlace), DataW.trod enc P W base sp held fuel t cs = some x → cs.length = ks.length → FitL ks cs ∧ x.2 = []) ∧
    (∀ (fs : List Field) (off : Nat) (ks : List CK), flatF P n fs off = some ks → ∀ (fuel : Nat) (cs : List Value) (xs : List (DataW H × List MemPlace)),
      (fs.mapM fun f => DataW.trod enc P W base sp held fuel f.type ((cs.drop f.offset).take (P.cellsOf f.type))) = some xs → cs.length = off + ks.length → FitL ks (cs.drop off) ∧ ∀ y ∈ xs, y.2 = []) := by
  intro n
  induction n with
  | zero =>
    refine ⟨fun t ks h => by simp [flatT] at h, fun fs off ks h fuel cs xs hm hl => ?_⟩
    cases fs with
    | nil =>
      simp only [flatF, Option.some.injEq] at h; subst h
      simp only [List.mapM_nil, Option.pure_def, Option.some.injEq] at hm; subst hm
      have : cs.drop off = [] := List.drop_eq_nil_of_le (by simp at hl; omega)
      rw [this]; exact ⟨trivial, by simp⟩
    | cons f r => simp [flatF] at h
  | succ n ih =>
    refine ⟨fun t ks h fuel cs x hx hl => ?_, fun fs off ks h fuel cs xs hm hl => ?_⟩
    · simp only [flatT] at h
      split at h <;> try (cases h; done)
      · rename_i hu
        simp only [Option.some.injEq] at h; subst h
        obtain ⟨b, rfl, rfl⟩ := DataW.trod_bool hu hx
        exact ⟨⟨trivial, trivial⟩, rfl⟩
      · rename_i k hu
        simp only [Option.some.injEq] at h; subst h
        obtain ⟨b, rfl, rfl, hw⟩ := DataW.trod_int hu hx
        exact ⟨⟨⟨rfl, hw⟩, trivial⟩, rfl⟩
      · rename_i fs hu
        cases fuel with
        | zero => simp [DataW.trod] at hx
        | succ fuel =>
          simp only [DataW.trod, hu] at hx
          split at hx <;> try (cases hx; done)
          obtain ⟨xs, hm, rfl⟩ := Option.map_eq_some_iff.1 hx
          obtain ⟨h1, h2⟩ := ih.2 fs.toList 0 ks h fuel cs xs hm (by omega)
          refine ⟨by simpa using h1, ?_⟩
          simp only [List.flatMap_eq_nil_iff]
          exact h2
      · rename_i m e hu
        split at h <;> try (cases h; done)
        rename_i ks' he
        split at h <;> try (cases h; done)
        rename_i hC
        simp only [Option.some.injEq] at h; subst h
        cases fuel with
        | zero => simp [DataW.trod] at hx
        | succ fuel =>
          simp only [DataW.trod, hu] at hx
          split at hx <;> try (cases hx; done)
          rename_i hlen
          obtain ⟨xs, hm, rfl⟩ := Option.map_eq_some_iff.1 hx
          have hlc : cs.length = m * ks'.length := by rw [hl]; simp [List.length_flatten]
          have each : ∀ i, i < m → ∃ y, y ∈ xs ∧ xs[i]? = some y ∧ FitL ks' ((cs.drop (i * ks'.length)).take ks'.length) ∧ y.2 = [] := by
            intro i hi
            obtain ⟨y, hy, ht⟩ := Lib.mapM_at hm i i (by simp [hi])
            rw [hC] at ht
            have hle : (i + 1) * ks'.length ≤ m * ks'.length := Nat.mul_le_mul_right _ hi
            rw [Nat.add_mul, Nat.one_mul] at hle
            obtain ⟨h1, h2⟩ := ih.1 e ks' he fuel _ y ht (by simp; omega)
            exact ⟨y, List.mem_of_getElem? hy, hy, h1, h2⟩
          have hxl : xs.length = m := by simpa using Lib.mapM_length hm
          refine ⟨?_, ?_⟩
          · have go : ∀ (j : Nat), j ≤ m → FitL (List.replicate j ks').flatten (cs.take (j * ks'.length)) := by
              intro j
              induction j with
              | zero => intro _; simp [FitL]
              | succ j ihj =>
                intro hj
                obtain ⟨_, _, _, h1, _⟩ := each j (by omega)
                rw [List.replicate_succ', List.flatten_append, Nat.add_mul, Nat.one_mul, List.take_add]
                exact (ihj (by omega)).append (by simpa using h1)
            have := go m (Nat.le_refl _)
            rwa [← hlc, List.take_length] at this
          · simp only [List.flatMap_eq_nil_iff]
            intro y hy
            obtain ⟨i, hi, rfl⟩ := List.mem_iff_getElem.1 hy
            obtain ⟨y', _, hy', _, h2⟩ := each i (by omega)
            rw [List.getElem?_eq_getElem hi] at hy'
            cases hy'; exact h2
    · cases fs with
      | nil =>
        simp only [flatF, Option.some.injEq] at h; subst h
        simp only [List.mapM_nil, Option.pure_def, Option.some.injEq] at hm; subst hm
        have : cs.drop off = [] := List.drop_eq_nil_of_le (by simp at hl; omega)
        rw [this]; exact ⟨trivial, by simp⟩
      | cons f r =>
        simp only [flatF] at h
        split at h <;> try (cases h; done)
        rename_i a b ha hb
        split at h <;> try (cases h; done)
        rename_i hc
        obtain ⟨rfl, hc⟩ := hc
        simp only [Option.some.injEq] at h; subst h
        simp only [List.mapM_cons, Option.bind_eq_bind, Option.bind_eq_some_iff, Option.pure_def, Option.some.injEq] at hm
        obtain ⟨y, hy, ys, hys, rfl⟩ := hm
        simp only [List.length_append] at hl
        rw [hc] at hy hb
        obtain ⟨h1, h2⟩ := ih.1 f.type a ha fuel _ y hy (by simp; omega)
        obtain ⟨h3, h4⟩ := ih.2 r _ b hb fuel cs ys hys (by omega)
        refine ⟨?_, by simp only [List.mem_cons, forall_eq_or_imp]; exact ⟨h2, h4⟩⟩
        have := h1.append h3
        rwa [← List.drop_drop, List.take_append_drop] at this
theorem add_eq {a : Addr} (hs : a.spot = none) (k : Nat) : a.add k = ⟨a.block, a.off + k, none⟩ := by
  cases a
  simp only at hs
  subst hs
  unfold Addr.add
  split
  · rename_i h; simp [h]
  · rfl
theorem open_flat {t e : TypeId} {ks : List CK} {n fuel : Nat} {cs : List Value} {x : DataW H × List MemPlace} (ht : P.underlying t = some (.slice e)) (hf : flatT P n e = some ks) (hC : P.cellsOf e = ks.length) (hk : ks ≠ [])
    (hspot : ∀ a l c, cs = [.slice (some a) l c] → a.spot = none) (h : DataW.trod enc P W 0 (fun _ => true) true fuel t cs = some x) :
    ∃ (nil : Bool) (b off cap : Nat) (L : List (List Value)), (nil = true → L.length = 0 ∧ cap = 0) ∧ cs = [if nil = true then .slice none 0 0 else .slice (some ⟨b, off, none⟩) L.length cap] ∧ (∀ l ∈ L, FitL ks l) ∧
      (L ≠ [] → CellsAt W (b, off) L.flatten L.flatten.length false ∧ b < W.heap.size) ∧ L.length ≤ cap ∧ cap ≤ maxLen := by
  rcases Deep.open_slice ht h with ⟨rfl, rfl⟩ | ⟨a, len, cap, m, n', D, Pl, rfl, hb, hl, hm, hmm, rfl, hi⟩
  · exact ⟨true, 0, 0, 0, [], by simp, by simp, by simp, by simp, by simp, by simp⟩
  · simp only [if_true] at hmm
    subst hmm
    have hs := hspot a len _ rfl
    have hpos : 0 < ks.length := List.length_pos_iff.2 hk
    have each : ∀ i, i < len → ∃ l, FitL ks l ∧ ∀ (j : Nat) (v : Value), l[j]? = some v → W.cell? ⟨a.block, a.off + (i * ks.length + j), none⟩ = some v := by
      intro i hlt
      obtain ⟨cs', hc, ht'⟩ := hi i (by omega)
      rw [hC] at hc
      obtain ⟨_, hcl, hat⟩ := World.cells?_some hc
      refine ⟨cs', (flat_ok n).1 e ks hf n' cs' _ ht' hcl |>.1, fun j v hj => ?_⟩
      have hjl : j < ks.length := by rw [← hcl]; exact (List.getElem?_eq_some_iff.1 hj).1
      have := hat j hjl
      rw [hj] at this
      rw [← this]
      rw [add_eq (a := a.add (i * ks.length)) (by rw [add_eq hs]), add_eq hs, Nat.add_assoc]
    have hL : ∀ k, k ≤ len → ∃ L : List (List Value), L.length = k ∧ (∀ l ∈ L, FitL ks l) ∧ ∀ (i : Nat) (v : Value), L.flatten[i]? = some v → W.cell? ⟨a.block, a.off + i, none⟩ = some v := by
      intro k
      induction k with
      | zero => intro _; exact ⟨[], rfl, by simp, by simp⟩
      | succ k ih =>
        intro hk
        obtain ⟨L, h1, h2, h3⟩ := ih (by omega)
        obtain ⟨l, h4, h5⟩ := each k (by omega)
        have hfl : ∀ (L : List (List Value)), (∀ l ∈ L, FitL ks l) → L.flatten.length = L.length * ks.length := by
          intro L hL
          induction L with
          | nil => simp
          | cons l L ihL =>
            rw [List.flatten_cons, List.length_append, ihL fun l hl => hL l (by simp [hl]), (hL l (by simp)).length, List.length_cons, Nat.add_mul]
            omega
        refine ⟨L ++ [l], by simp [h1], ?_, ?_⟩
        · intro z hz
          rcases List.mem_append.1 hz with hz | hz
          · exact h2 z hz
          · simp at hz; subst hz; exact h4
        · intro i v hv
          rw [List.flatten_append, List.flatten_singleton] at hv
          have hlen := hfl L h2
          rw [h1] at hlen
          by_cases hi : i < L.flatten.length
          · rw [List.getElem?_append_left hi] at hv
            exact h3 i v hv
          · rw [List.getElem?_append_right (by omega)] at hv
            have := h5 _ _ hv
            rw [← this]
            congr 2
            omega
    obtain ⟨L, h1, h2, h3⟩ := hL len (Nat.le_refl _)
    refine ⟨false, a.block, a.off, _, L, by simp, ?_, h2, fun hne => ?_, by omega, hm⟩
    · simp only [Bool.false_eq_true, if_false, h1]
      congr 3
      cases a; simp_all
    · have hfne : L.flatten ≠ [] := by
        cases L with
        | nil => exact absurd rfl hne
        | cons l L =>
          have := (h2 l (by simp)).length
          intro h0
          rw [List.flatten_cons, List.append_eq_nil_iff] at h0
          rw [h0.1] at this
          simp at this; omega
      refine ⟨cellsAt_of h3 hfne, ?_⟩
      obtain ⟨v, hv⟩ : ∃ v, L.flatten[0]? = some v := ⟨_, List.getElem?_eq_getElem (List.length_pos_iff.2 hfne)⟩
      have := h3 0 v hv
      unfold World.cell? at this
      cases ho : W.heap[a.block]? with
      | none => simp only [ho] at this; cases this
      | some o => exact (Array.getElem?_eq_some_iff.1 ho).1
end
theorem okSlice {P : Program} {W : World} {r : Reach} {base : Nat} {t e : TypeId} {v : Value} (ht : P.underlying t = some (.slice e)) (h : Value.okWide P W r base t v) : v.cells.toList = [v] ∧ ∀ a l c, [v] = [Value.slice (some a) l c] → a.spot = none := by
  simp only [Value.okWide, ht, Cell.okWide, Cell.ok] at h
  split at h <;> rename_i h1 <;> first | (cases h1; done) | skip
  all_goals first | exact h.elim | skip
  all_goals cases h1
  · exact ⟨rfl, fun a l c e => by cases e⟩
  · exact ⟨rfl, fun a l c e => by cases e; exact h.2.2.2.1⟩
theorem list_of {α β : Type} {p : α → Prop} {f : α → β} : ∀ {L : List β}, (∀ x ∈ L, ∃ a, p a ∧ x = f a) → ∃ l : List α, L = l.map f ∧ ∀ a ∈ l, p a
  | [], _ => ⟨[], rfl, by simp⟩
  | x :: L, h => by
    obtain ⟨a, ha, rfl⟩ := h x (by simp)
    obtain ⟨l, rfl, hl⟩ := list_of (L := L) fun x hx => h x (by simp [hx])
    exact ⟨a :: l, rfl, by simpa using ⟨ha, hl⟩⟩
theorem wf_has {k : IntKind} {n : Int} (h : (Lit.int k n).wf = true) : k.min ≤ n ∧ n ≤ k.max := by
  simpa only [Lit.wf, Bool.and_eq_true, decide_eq_true_eq] using h
theorem wf_u64 {n : Int} (h : (Lit.int .u64 n).wf = true) : 0 ≤ n ∧ n < 18446744073709551616 := by
  have := wf_has h
  have e1 : IntKind.u64.min = 0 := by decide
  have e2 : IntKind.u64.max = 18446744073709551615 := by decide
  omega
theorem wf_u8 {n : Int} (h : (Lit.int .u8 n).wf = true) : 0 ≤ n ∧ n < 256 := by
  have := wf_has h
  have e1 : IntKind.u8.min = 0 := by decide
  have e2 : IntKind.u8.max = 255 := by decide
  omega
theorem wf_i64 {n : Int} (h : (Lit.int .i64 n).wf = true) : -9223372036854775808 ≤ n ∧ n < 9223372036854775808 := by
  have := wf_has h
  have e1 : IntKind.i64.min = -9223372036854775808 := by decide
  have e2 : IntKind.i64.max = 9223372036854775807 := by decide
  omega
end Go.SX
