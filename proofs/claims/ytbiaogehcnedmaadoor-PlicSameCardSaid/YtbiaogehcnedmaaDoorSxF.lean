/-
  Why the instruction tells what the operation does: parts of values, slices; the operations that write or make blocks.
-/
import Derived.Test.YtbiaogehcnedmaaDoorSxE
set_option linter.unusedVariables false
set_option linter.unusedSimpArgs false
namespace Go.SX
open Go
section
variable {X : Cx} {N : Nat} {P : Program} {ρ : Ren} {H : List SB} {t : Env} {a : Act} {K : Env → Prop}

theorem fldv1_ok {tt ty : TypeId} {pos af gd} {d f : Nat} {fs : Array Field} {fd : Field} {td : TypeDesc} {x : Operand} (hu : P.underlying ty = some (.struct fs)) (hf : fs[f]? = some fd)
    (hu2 : P.underlying fd.type = some td) (h1 : ∀ f, td ≠ .struct f) (h2 : ∀ n e, td ≠ .array n e) (hN : d < N) (hs : Slots N ρ t a) (hx : okx x = true)
    (h : stepP X.GL H t (.fldv d x fd.offset none) K) : PureAt X N P ⟨some d, .field ty x f, tt, pos, af, gd⟩ ρ H a K := by
  simp only [stepP] at h
  cases ex : oe t x <;> simp only [ex] at h
  rename_i cs
  obtain ⟨l⟩ := cs
  simp only at h
  cases hv : l[fd.offset]? <;> simp only [hv] at h
  obtain ⟨c, hc, e1⟩ := eval_agg hs hx ex
  obtain ⟨y, hy, hvr⟩ := hc.get hv
  refine PureAt.of rfl hN hs h (fun _ => hvr) fun w hw => ?_
  refine pure_run _ rfl ?_
  simp [Instr.field, run_underlying hu, hf, e1, asAgg, part, run_isAgg_false hu2 h1 h2, hy]
theorem fldvn_ok {tt ty : TypeId} {pos af gd} {d f n : Nat} {fs : Array Field} {fd : Field} {td : TypeDesc} {x : Operand} (hu : P.underlying ty = some (.struct fs)) (hf : fs[f]? = some fd)
    (hu2 : P.underlying fd.type = some td) (h1 : (∃ f, td = .struct f) ∨ (∃ n e, td = .array n e)) (hz : tsize P fd.type = some n) (hN : d < N) (hs : Slots N ρ t a) (hx : okx x = true)
    (h : stepP X.GL H t (.fldv d x fd.offset (some n)) K) : PureAt X N P ⟨some d, .field ty x f, tt, pos, af, gd⟩ ρ H a K := by
  simp only [stepP] at h
  cases ex : oe t x <;> simp only [ex] at h
  rename_i cs
  obtain ⟨l⟩ := cs
  simp only at h
  obtain ⟨c, hc, e1⟩ := eval_agg hs hx ex
  refine PureAt.of rfl hN hs h (x := .agg ((c.drop fd.offset).take n).toArray) (fun _ => by simp only [VR, VRa]; exact ⟨_, (hc.drop _).take _, rfl⟩) fun w hw => ?_
  refine pure_run _ rfl ?_
  simp [Instr.field, run_underlying hu, hf, e1, asAgg, part, run_isAgg_true hu2 h1, run_sizeOf hz, List.extract_eq_take_drop, List.extract]
theorem lens_ok {tt ty : TypeId} {pos af gd} {d : Nat} {x : Operand} (hu : P.underlying ty = some .string) (hN : d < N) (hs : Slots N ρ t a) (hx : okx x = true)
    (h : stepP X.GL H t (.len d x false) K) : PureAt X N P ⟨some d, .call { callee := .builtin .len, args := #[x], argTypes := #[ty] }, tt, pos, af, gd⟩ ρ H a K := by
  simp only [stepP] at h
  cases ex : oe t x <;> simp only [ex] at h
  have e1 := eval_string hs hx ex
  refine PureAt.leaf rfl hN hs rfl h fun w hw => ?_
  simp [execOp, resolve, invoke, builtin, Builtin.len_, e1, run_underlying hu, goInt]
theorem len_ok {tt ty e : TypeId} {pos af gd} {d : Nat} {x : Operand} (hu : P.underlying ty = some (.slice e)) (hN : d < N) (hs : Slots N ρ t a) (hx : okx x = true)
    (h : stepP X.GL H t (.len d x true) K) : PureAt X N P ⟨some d, .call { callee := .builtin .len, args := #[x], argTypes := #[ty] }, tt, pos, af, gd⟩ ρ H a K := by
  simp only [stepP] at h
  cases ex : oe t x <;> simp only [ex] at h
  rename_i p n c
  have e0 := eval_of hs hx ex rfl
  obtain ⟨q, e1⟩ : ∃ q, a.eval x = .slice q n c := by
    cases p with
    | none => simp only [VR] at e0; exact ⟨none, e0⟩
    | some b => simp only [VR] at e0; obtain ⟨c, _, e0⟩ := e0; exact ⟨some c, e0⟩
  refine PureAt.leaf rfl hN hs rfl h fun w hw => ?_
  simp [execOp, resolve, invoke, builtin, Builtin.len_, e1, run_underlying hu, goInt]
theorem cap_ok {tt ty e : TypeId} {pos af gd} {d : Nat} {x : Operand} (hu : P.underlying ty = some (.slice e)) (hN : d < N) (hs : Slots N ρ t a) (hx : okx x = true)
    (h : stepP X.GL H t (.cap d x) K) : PureAt X N P ⟨some d, .call { callee := .builtin .cap, args := #[x], argTypes := #[ty] }, tt, pos, af, gd⟩ ρ H a K := by
  simp only [stepP] at h
  cases ex : oe t x <;> simp only [ex] at h
  rename_i p n c
  have e0 := eval_of hs hx ex rfl
  obtain ⟨q, e1⟩ : ∃ q, a.eval x = .slice q n c := by
    cases p with
    | none => simp only [VR] at e0; exact ⟨none, e0⟩
    | some b => simp only [VR] at e0; obtain ⟨c, _, e0⟩ := e0; exact ⟨some c, e0⟩
  refine PureAt.leaf rfl hN hs rfl h fun w hw => ?_
  simp [execOp, resolve, invoke, builtin, Builtin.cap_, e1, run_underlying hu, goInt]

theorem ixv_some {x : Operand} {m : Nat} {K : Nat → Prop} (hs : Slots N ρ t a) (hx : okx x = true) (h : ixv t (some x) m K) : ∃ k i, a.eval x = .int k i ∧ 0 ≤ i ∧ K i.toNat := by
  simp only [ixv] at h
  cases ex : oe t x <;> simp only [ex] at h
  exact ⟨_, _, eval_int hs hx ex, h.1, h.2⟩
theorem ixv_none {m : Nat} {K : Nat → Prop} : ixv t none m K = K m := rfl
theorem slc_ok {tt ty e : TypeId} {pos af gd} {d sz : Nat} {x : Operand} {lo hi mx : Option Operand} (hu : P.underlying ty = some (.slice e)) (hz : tsize P e = some sz) (hN : d < N) (hs : Slots N ρ t a) (hx : okx x = true)
    (hlo : okxo lo = true) (hhi : okxo hi = true) (hmx : okxo mx = true) (hm : (mx.isNone || hi.isSome) = true)
    (h : stepP X.GL H t (.slc d x lo hi mx sz) K) : PureAt X N P ⟨some d, .slice ty x lo hi mx, tt, pos, af, gd⟩ ρ H a K := by
  simp only [stepP] at h
  cases ex : oe t x <;> simp only [ex] at h
  rename_i p n c
  have e0 := eval_of hs hx ex rfl
  -- the bounds
  have hb : ∃ l hh m, (∀ w, (Instr.sliceBounds true n c (lo.map a.eval) (hi.map a.eval) (mx.map a.eval)).run P w = .ok (l, hh, m) w) ∧
      K (put t d (.slice (if m = l then p else p.map fun a => ⟨a.block, a.off + l * sz, none⟩) (hh - l) (m - l))) := by
    have step3 : ∀ (m hh : Nat), (ixv t lo 0 fun l => l ≤ hh ∧ K (put t d (.slice (if m = l then p else p.map fun a => ⟨a.block, a.off + l * sz, none⟩) (hh - l) (m - l)))) →
        ∃ l, (∀ w code, (match lo.map a.eval with | some v => Instr.sliceBound v hh code | none => pure 0 : Sem Nat).run P w = .ok l w) ∧
          K (put t d (.slice (if m = l then p else p.map fun a => ⟨a.block, a.off + l * sz, none⟩) (hh - l) (m - l))) := by
      intro m hh h
      cases lo with
      | none => rw [ixv_none] at h; exact ⟨0, fun w code => rfl, h.2⟩
      | some y =>
        obtain ⟨k, i, e1, h0, h1, h2⟩ := ixv_some hs hlo h
        refine ⟨i.toNat, fun w code => ?_, h2⟩
        simp only [Option.map_some, e1]
        exact run_sliceBound w k i hh code h0 (by omega)
    cases mx with
    | none =>
      rw [ixv_none] at h
      cases hi with
      | none =>
        rw [ixv_none] at h
        obtain ⟨l, hl, hk⟩ := step3 _ _ h.2.2
        refine ⟨l, n, c, fun w => ?_, hk⟩
        have := hl w .sliceB
        cases lo <;> simp [Instr.sliceBounds] at this ⊢ <;> simp [this]
      | some y =>
        obtain ⟨k, i, e1, h0, h1, h2⟩ := ixv_some hs hhi h.2
        obtain ⟨l, hl, hk⟩ := step3 _ _ h2
        refine ⟨l, i.toNat, c, fun w => ?_, hk⟩
        have := hl w .sliceB
        have hb := run_sliceBound (P := P) w k i c .sliceAcap h0 (by omega)
        cases lo <;> simp [Instr.sliceBounds, e1] at this ⊢ <;> simp [this, hb]
    | some z =>
      obtain ⟨k', j, e3, g0, g1, g2⟩ := ixv_some hs hmx h
      cases hi with
      | none => simp at hm
      | some y =>
        obtain ⟨k, i, e1, h0, h1, h2⟩ := ixv_some hs hhi g2
        obtain ⟨l, hl, hk⟩ := step3 _ _ h2
        refine ⟨l, i.toNat, j.toNat, fun w => ?_, hk⟩
        have := hl w .slice3C
        have hb := run_sliceBound (P := P) w k' j c .slice3Acap g0 (by omega)
        have hb2 := run_sliceBound (P := P) w k i j.toNat .slice3B h0 (by omega)
        cases lo <;> simp [Instr.sliceBounds, e1, e3] at this ⊢ <;> simp [this, hb, hb2]
  obtain ⟨l, hh, m, hr, hk⟩ := hb
  cases p with
  | none =>
    simp only [VR] at e0
    refine PureAt.of rfl hN hs hk (x := .slice none (hh - l) (m - l)) (fun _ => by split <;> exact (rfl : Value.slice none (hh - l) (m - l) = _)) fun w hw => ?_
    refine pure_run _ rfl ?_
    simp [Instr.sliceAt, Instr.slice, run_underlying hu, e0, hr, run_sizeOf hz]
  | some b =>
    simp only [VR] at e0
    obtain ⟨q, hq, e0⟩ := e0
    refine PureAt.of rfl hN hs hk (x := .slice (if m = l then some q else some (q.add (l * sz))) (hh - l) (m - l)) (fun _ => ?_) fun w hw => ?_
    · by_cases hml : m = l
      · rw [if_pos hml, if_pos hml]; simp only [VR]; exact ⟨q, hq, rfl⟩
      · rw [if_neg hml, if_neg hml, Option.map_some]; simp only [VR]; exact ⟨_, hq.off _, rfl⟩
    · refine pure_run _ rfl ?_
      simp [Instr.sliceAt, Instr.slice, run_underlying hu, e0, hr, run_sizeOf hz]

/-! ### Values put together -/
theorem setAll_length : ∀ (vs l : List Value) (i : Nat), (setAll l i vs).length = l.length
  | [], _, _ => rfl
  | v :: vs, l, i => by simp only [setAll]; rw [setAll_length vs]; simp
theorem VRl.setAll : ∀ {vs xs : List Value} {l m : List Value} {i : Nat}, VRl ρ l m → VRl ρ vs xs → VRl ρ (SX.setAll l i vs) (SX.setAll m i xs)
  | [], [], _, _, _, h, _ => h
  | v :: vs, x :: xs, l, m, i, h, h' => by simp only [VRl] at h'; simp only [SX.setAll]; exact VRl.setAll (h.set h'.1) h'.2
  | [], x :: xs, _, _, _, _, h => by simp only [VRl] at h
  | v :: vs, [], _, _, _, _, h => by simp only [VRl] at h
theorem leafL_setAll : ∀ {vs l : List Value} {i : Nat}, leafL l = true → leafL vs = true → leafL (setAll l i vs) = true
  | [], _, _, h, _ => h
  | v :: vs, l, i, h, h' => by simp only [leafL, Bool.and_eq_true] at h'; simp only [setAll]; exact leafL_setAll (leafL_set i h h'.1) h'.2
/-- The cells of a value and of what it stands for. -/
theorem VR.cells {v x : Value} (h : VR ρ v x) : VRl ρ v.cells.toList x.cells.toList := by
  cases v with
  | agg cs => obtain ⟨l⟩ := cs; simp only [VR, VRa] at h; obtain ⟨ds, h1, rfl⟩ := h; simpa [Value.cells] using h1
  | tuple cs => have h0 := h; obtain ⟨l⟩ := cs; simp only [VR, VRa] at h; obtain ⟨ds, h1, rfl⟩ := h; simp only [Value.cells, VRl]; exact ⟨h0, trivial⟩
  | bool b => have h0 := h; simp only [VR] at h; subst h; simp only [Value.cells, VRl]; exact ⟨h0, trivial⟩
  | int k n => have h0 := h; simp only [VR] at h; subst h; simp only [Value.cells, VRl]; exact ⟨h0, trivial⟩
  | string b => have h0 := h; simp only [VR] at h; subst h; simp only [Value.cells, VRl]; exact ⟨h0, trivial⟩
  | nilFunc => have h0 := h; simp only [VR] at h; subst h; simp only [Value.cells, VRl]; exact ⟨h0, trivial⟩
  | nilIface => have h0 := h; simp only [VR] at h; subst h; simp only [Value.cells, VRl]; exact ⟨h0, trivial⟩
  | pointer p => have h0 := h; cases p <;> simp only [VR] at h <;> first | (subst h; simp only [Value.cells, VRl]; exact ⟨h0, trivial⟩) | (obtain ⟨b, _, rfl⟩ := h; simp only [Value.cells, VRl]; exact ⟨h0, trivial⟩)
  | slice p n c => have h0 := h; cases p <;> simp only [VR] at h <;> first | (subst h; simp only [Value.cells, VRl]; exact ⟨h0, trivial⟩) | (obtain ⟨b, _, rfl⟩ := h; simp only [Value.cells, VRl]; exact ⟨h0, trivial⟩)
  | map p => have h0 := h; cases p <;> simp only [VR] at h <;> first | (subst h; simp only [Value.cells, VRl]; exact ⟨h0, trivial⟩) | (obtain ⟨b, _, rfl⟩ := h; simp only [Value.cells, VRl]; exact ⟨h0, trivial⟩)
  | func f a b => have h0 := h; cases f <;> simp only [VR] at h <;> first | (obtain ⟨_, _, _, _, rfl⟩ := h; simp only [Value.cells, VRl]; exact ⟨h0, trivial⟩) | (obtain ⟨_, _, rfl⟩ := h; simp only [Value.cells, VRl]; exact ⟨h0, trivial⟩)
  | float k n => simp only [VR] at h
  | complex k a b => simp only [VR] at h
  | chan r => simp only [VR] at h
  | iface t v => simp only [VR] at h
theorem foldl_setAllL : ∀ (vs : List Value) (l : List Value) (off k : Nat),
    (vs.zipIdx k).foldl (fun (cs : Array Value) (x : Value × Nat) => cs.setIfInBounds (off + x.2) x.1) l.toArray = (setAll l (off + k) vs).toArray
  | [], l, off, k => by simp [setAll]
  | v :: vs, l, off, k => by
    have := foldl_setAllL vs (l.set (off + k) v) off (k + 1)
    simp only [setAll]
    rw [show off + k + 1 = off + (k + 1) from by omega, ← this]
    simp
theorem foldl_setAll (vs l : List Value) (off : Nat) :
    (vs.toArray.zipIdx).foldl (fun (cs : Array Value) (x : Value × Nat) => cs.setIfInBounds (off + x.2) x.1) l.toArray = (setAll l off vs).toArray := by
  rw [← Array.foldl_toList, Array.toList_zipIdx]
  simpa using foldl_setAllL vs l off 0
/-- The model's own way to put parts into a value. -/
theorem fill_of {place : Nat → Option (Nat × Nat)} {places : List (Nat × Nat)} (hp : ∀ i q, places[i]? = some q → place i = some q) :
    ∀ {parts : List (Nat × Operand)} {ps : List (Nat × Nat × Operand)} {l m : List Value} {K : List Value → Prop}, partsOf places parts = some ps → Slots N ρ t a → VRl ρ l m → fills t l ps K →
      ∃ l' m', K l' ∧ VRl ρ l' m' ∧ Instr.fill place m.toArray (parts.map fun (i, x) => (i, a.eval x)) = some m'.toArray
  | [], ps, l, m, K, h, _, hv, hk => by
    simp only [partsOf, Option.some.injEq] at h; subst h
    exact ⟨l, m, hk, hv, by simp [Instr.fill]⟩
  | (i, x) :: parts, ps, l, m, K, h, hs, hv, hk => by
    simp only [partsOf] at h
    cases hi : places[i]? <;> cases hr : partsOf places parts <;> simp only [hi, hr] at h <;> try (cases h)
    rename_i q r
    obtain ⟨off, sz⟩ := q
    simp only at h
    split at h
    · rename_i hx
      simp only [Option.some.injEq] at h
      subst h
      simp only [fills] at hk
      obtain ⟨h1, h2, h3, h4⟩ := hk
      have hvx := (hs.eval hx h1).cells
      have hl2 : (a.eval x).cells.size = sz := by rw [← h2, hvx.length]; simp
      obtain ⟨l', m', k1, k2, k3⟩ := fill_of hp hr hs (VRl.setAll (i := off) hv hvx) h4
      refine ⟨l', m', k1, k2, ?_⟩
      simp only [List.map_cons, Instr.fill, hp i _ hi]
      have hlm := hv.length
      rw [if_neg (by simp [hl2]; omega)]
      have := foldl_setAll (a.eval x).cells.toList m off
      simp only [Array.toArray_toList] at this
      rw [this]
      exact k3
    · cases h
theorem mapM_placesL (w : World) : ∀ (l : List Field), (∀ f ∈ l, (tsize P f.type).isSome = true) →
    (l.mapM fun f => Prod.mk f.offset <$> sizeOf f.type : Sem (List (Nat × Nat))).run P w = .ok (l.map fun f => (f.offset, (tsize P f.type).getD 0)) w
  | [], _ => by simp
  | f :: l, hl => by
    obtain ⟨n, hn⟩ := Option.isSome_iff_exists.1 (hl f (by simp))
    simp [run_sizeOf hn, mapM_placesL w l fun g hg => hl g (by simp [hg]), hn]
theorem mapM_places (fs : Array Field) (h : ∀ f ∈ fs.toList, (tsize P f.type).isSome = true) (w : World) :
    (fs.mapM fun f => Prod.mk f.offset <$> sizeOf f.type : Sem (Array (Nat × Nat))).run P w = .ok (fs.toList.map fun f => (f.offset, (tsize P f.type).getD 0)).toArray w := by
  rw [← Array.toArray_toList (xs := fs), List.mapM_toArray]
  simp [mapM_placesL w fs.toList h]
end
end Go.SX
