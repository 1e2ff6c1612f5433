/-
  Why the instruction tells what the operation does: the operations that write or make blocks; then all operations.
-/
import Derived.Test.YtbiaogehcnedmaaDoorSxF
set_option linter.unusedVariables false
set_option linter.unusedSimpArgs false
namespace Go.SX
open Go
section
variable {X : Cx} {N : Nat} {P : Program} {ρ : Ren} {H : List SB} {t : Env} {a : Act}

theorem bld_ok {K : Env → Prop} {tt ty : TypeId} {pos af gd} {d : Nat} {fs : Array Field} {z : List Value} {parts : Array (Nat × Operand)} {ps : List (Nat × Nat × Operand)}
    (hu : P.underlying ty = some (.struct fs)) (hz : tzero P ty = some z) (hp : partsOf (fs.toList.map fun f => (f.offset, (tsize P f.type).getD 0)) parts.toList = some ps)
    (hf : ∀ f ∈ fs.toList, (tsize P f.type).isSome = true) (hN : d < N) (hs : Slots N ρ t a)
    (h : stepP X.GL H t (.bld d z ps) K) : PureAt X N P ⟨some d, .build ty parts, tt, pos, af, gd⟩ ρ H a K := by
  simp only [stepP] at h
  obtain ⟨i, zv, hi, hzv, hzc, hzl⟩ : ∃ i zv, P.info? ty = some i ∧ i.zero = some zv ∧ zv.cells.toList = z ∧ leafL z = true := by
    unfold tzero at hz
    cases hi : P.info? ty <;> simp [hi] at hz
    rename_i i
    cases hzv : i.zero <;> simp [hzv] at hz
    exact ⟨i, _, rfl, hzv, hz.2, hz.2 ▸ hz.1⟩
  obtain ⟨l, m, hk, hv, hr⟩ := fill_of (place := fun i => ((fs.toList.map fun f => (f.offset, (tsize P f.type).getD 0)).toArray)[i]?) (fun i q hq => by simpa using hq) hp hs (VRl.leaf z hzl) h
  refine PureAt.of rfl hN hs hk (x := .agg m.toArray) (fun _ => by simp only [VR, VRa]; exact ⟨m, hv, rfl⟩) fun w hw => ?_
  refine pure_run _ rfl ?_
  have hzz : zv.cells = z.toArray := by simp [← hzc]
  have hm := mapM_places (P := P) fs hf w
  simp at hm hr
  simp [Instr.build, zeroValue, typeInfo, hi, hzv, run_underlying hu, hzz, hm, hr]

/-- The operation yields one value, or nothing, and turns the heap. -/
def EffAt (X : Cx) (N : Nat) (P : Program) (o : Oper) (ρ : Ren) (a : Act) (w : World) (K : Env → List SB → Prop) : Prop :=
  ∃ x w' e t' H', ((execOp a.eval o).run P w = .ok (.value x) w' ∨ ((execOp a.eval o).run P w = .ok .skip w' ∧ x = undef)) ∧ Sat X w' (ρ ++ e) H' ∧ Slots N (ρ ++ e) t' (a.put o.dst x) ∧ K t' H'

theorem setCell_cellsAt {w : World} {p : Nat × Nat} {cs : List Value} {room : Nat} {wr : Bool} (h : CellsAt w p cs room wr) {i : Nat} (hi : i < cs.length) (v : Value) :
    CellsAt (w.setCell ⟨p.1, p.2 + i, none⟩ v) p (cs.set i v) room wr := by
  obtain ⟨pre, rest, e, fr, h1, h2, h3, h4⟩ := h
  refine ⟨pre, rest, e, fr, ?_, h2, by simpa using h3, by simpa using h4⟩
  simp only [World.setCell, Array.getElem?_modify, ↓reduceIte, h1, Option.map_some]
  congr 2
  rw [← h2]
  simp [List.set_append_right, List.set_append_left, hi, List.append_assoc]
theorem frozen_cellsAt {w : World} {p : Nat × Nat} {cs : List Value} {room : Nat} (h : CellsAt w p cs room true) {i : Nat} (hi : i < cs.length) :
    w.frozen? ⟨p.1, p.2 + i, none⟩ = false := by
  obtain ⟨pre, rest, e, fr, h1, h2, h3, h4⟩ := h
  simp only [World.frozen?, h1]
  have := h4 rfl (p.2 + i) (by omega) (by omega)
  simpa using this
theorem heap_setCell_other (w : World) (c : Addr) (v : Value) (k : Nat) (hk : k ≠ c.block) : (w.setCell c v).heap[k]? = w.heap[k]? := Go.RowKit.Below.heap_setCell w c v k hk
/-- Cells are stored one behind the other. -/
theorem run_storeCells {p : Nat × Nat} {room : Nat} (off : Nat) : ∀ (xs : List Value) (j : Nat) (cs : List Value) (w : World), CellsAt w p cs room true → off + j + xs.length ≤ cs.length → oneL xs = true →
    ∃ w', (storeCells ⟨p.1, p.2 + off, none⟩ xs j).run P w = .ok () w' ∧ CellsAt w' p (setAll cs (off + j) xs) room true ∧ w'.heap.size = w.heap.size ∧ w'.os = w.os ∧ w'.tape = w.tape ∧ w'.output = w.output ∧
      ∀ k, k ≠ p.1 → w'.heap[k]? = w.heap[k]?
  | [], j, cs, w, h, _, _ => ⟨w, rfl, h, rfl, rfl, rfl, rfl, fun _ _ => rfl⟩
  | x :: xs, j, cs, w, h, hl, h1 => by
    simp only [oneL, Bool.and_eq_true] at h1
    simp only [List.length_cons] at hl
    have hadd : (⟨p.1, p.2 + off, none⟩ : Addr).add j = ⟨p.1, p.2 + (off + j), none⟩ := by unfold Addr.add; split <;> simp_all [Nat.add_assoc]
    have hlt : off + j < cs.length := by omega
    have hc : w.cell? ⟨p.1, p.2 + (off + j), none⟩ = some cs[off + j] := h.cell (by simp [hlt])
    have hf := frozen_cellsAt h hlt
    obtain ⟨w', k1, k2, k3, k4, k5, k6, k7⟩ := run_storeCells off xs (j + 1) (cs.set (off + j) x) _ (setCell_cellsAt h hlt x) (by simp; omega) h1.2
    refine ⟨w', ?_, k2, by rw [k3]; simp, k4, k5, k6, fun k hk => (k7 k hk).trans (heap_setCell_other _ _ _ _ hk)⟩
    simp only [storeCells, hadd]
    simp [run_store P w _ x _ h1.1, hc, hf, k1]

theorem wrt_some {o : Option SB} {i : Nat} {vs : List Value} {b : SB} (h : wrt o i vs = some b) :
    ∃ u, o = some u ∧ u.wr = true ∧ u.live = true ∧ i + vs.length ≤ (csOf u).length ∧ oneL vs = true ∧
      ((∃ c r, u = .cells c r true ∧ b = .cells (setAll c i vs) r true) ∨ (∃ c r, u = .flat c r true ∧ ((leafL vs = true ∧ b = .flat (setAll c i vs) r true) ∨ b = .cells (setAll c i vs) r true))) := by
  unfold wrt at h
  split at h
  · split at h
    · rename_i hc; simp at h; exact ⟨_, rfl, rfl, rfl, hc.1, hc.2, .inl ⟨_, _, rfl, h.symm⟩⟩
    · cases h
  · split at h
    · rename_i hc
      split at h
      · rename_i hl; simp at h; exact ⟨_, rfl, rfl, rfl, hc.1, hc.2, .inr ⟨_, _, rfl, .inl ⟨hl, h.symm⟩⟩⟩
      · simp at h; exact ⟨_, rfl, rfl, rfl, hc.1, hc.2, .inr ⟨_, _, rfl, .inr h.symm⟩⟩
    · cases h
  · cases h
theorem VR.one {v x : Value} (h : VR ρ v x) (hv : v.oneCell' = true) : x.oneCell' = true := by
  cases v with
  | pointer p => cases p <;> simp only [VR] at h <;> first | (subst h; rfl) | (obtain ⟨b, _, rfl⟩ := h; rfl)
  | slice p n c => cases p <;> simp only [VR] at h <;> first | (subst h; rfl) | (obtain ⟨b, _, rfl⟩ := h; rfl)
  | map p => cases p <;> simp only [VR] at h <;> first | (subst h; rfl) | (obtain ⟨b, _, rfl⟩ := h; rfl)
  | func f a b => cases f <;> simp only [VR] at h <;> first | (obtain ⟨_, _, _, _, rfl⟩ := h; rfl) | (obtain ⟨_, _, rfl⟩ := h; rfl)
  | agg cs => simp [Value.oneCell'] at hv
  | tuple cs => simp [Value.oneCell'] at hv
  | bool b => simp only [VR] at h; subst h; rfl
  | int k n => simp only [VR] at h; subst h; rfl
  | string b => simp only [VR] at h; subst h; rfl
  | nilFunc => simp only [VR] at h; subst h; rfl
  | nilIface => simp only [VR] at h; subst h; rfl
  | float k n => simp only [VR] at h
  | complex k a b => simp only [VR] at h
  | chan r => simp only [VR] at h
  | iface t v => simp only [VR] at h
theorem VRl.one : ∀ {v x : List Value}, VRl ρ v x → oneL v = true → oneL x = true
  | [], [], _, _ => rfl
  | v :: vs, x :: xs, h, h' => by simp only [VRl] at h; simp only [oneL, Bool.and_eq_true] at *; exact ⟨h.1.one h'.1, VRl.one h.2 h'.2⟩
  | [], x :: xs, h, _ => by simp only [VRl] at h
  | v :: vs, [], h, _ => by simp only [VRl] at h
variable {K : Env → List SB → Prop}
theorem st_ok {tt ty : TypeId} {pos af gd} {n : Nat} {x y : Operand} {w : World} (hz : tsize P ty = some n) (hw : Sat X w ρ H) (hs : Slots N ρ t a) (hx : okx x = true) (hy : okx y = true)
    (h : stepE X.GL H t (.st x y n) K) : EffAt X N P ⟨none, .store ty x y, tt, pos, af, gd⟩ ρ a w K := by
  simp only [stepE] at h
  cases ex : oe t x <;> simp only [ex] at h
  rename_i q
  cases q <;> simp only at h
  rename_i b
  obtain ⟨h1, h2, h3⟩ := h
  cases hv : wrt (look X.GL H b.block) b.off (oe t y).cells.toList <;> simp only [hv] at h3
  rename_i o'
  obtain ⟨c, hc, e1⟩ := eval_ptr hs hx ex
  have hy1 := hs.eval hy h1
  have hyc := hy1.cells
  obtain ⟨o, ho, hwr, hl, hle, hone, hkind⟩ := wrt_some hv
  obtain ⟨p, hp, rfl⟩ := hc.at
  have hb : b.block < GB ∧ b.block ≠ BAD ∧ ρ[b.block]? = some p ∧ H[b.block]? = some o := by
    unfold look at ho
    unfold Ren.at? at hp
    split at ho
    · obtain ⟨_, _, _, _, rfl⟩ := lookG_mem ho; simp [SB.wr] at hwr
    · rename_i hg
      rw [if_neg hg] at hp
      split at ho
      · cases ho
      · rename_i hbad
        rw [if_neg hbad] at hp
        exact ⟨by omega, hbad, hp, ho⟩
  obtain ⟨_, _, hbp, hbo⟩ := hb
  have hok := hw.ok _ p o hbp hbo
  have hcs : ∃ cs room, VRl ρ (csOf o) cs ∧ CellsAt w p cs room true ∧ (∀ w' xs, VRl ρ (oe t y).cells.toList xs → CellsAt w' p (setAll cs b.off xs) room true → SBok ρ w' p o') := by
    rcases hkind with ⟨c, r, rfl, rfl⟩ | ⟨c, r, rfl, hk⟩
    · obtain ⟨cs, k1, k2⟩ := hok
      exact ⟨cs, r, k1, k2, fun w' xs hxs hc' => ⟨_, VRl.setAll k1 hxs, hc'⟩⟩
    · obtain ⟨k1, k2⟩ := hok
      refine ⟨c, r, VRl.leaf c k1, k2, fun w' xs hxs hc' => ?_⟩
      rcases hk with ⟨hlf, rfl⟩ | rfl
      · obtain rfl := VRl.leaf_eq _ _ hlf hxs
        exact ⟨leafL_setAll k1 hlf, hc'⟩
      · exact ⟨_, VRl.setAll (VRl.leaf c k1) hxs, hc'⟩
  obtain ⟨cs, room, k1, k2, k3⟩ := hcs
  have hlen := k1.length
  have hlen2 := hyc.length
  obtain ⟨w', r1, r2, r3, r4, r5, r6, r7⟩ := run_storeCells (P := P) b.off (a.eval y).cells.toList 0 cs w k2 (by omega) (hyc.one hone)
  refine ⟨undef, w', [], t, H.set b.block o', .inr ⟨?_, rfl⟩, ?_, ?_, h3⟩
  · have hsz : (a.eval y).cells.size = n := by rw [← h2, hlen2]; simp
    simp [execOp, Instr.storeAt, e1, Instr.sureAddr, storeVar, run_sizeOf hz, hsz, r1]
  · rw [List.append_nil]
    exact hw.update hbp hbo hwr hl r4 r5 r6 r3 r7 (k3 w' _ hyc r2)
  · rw [List.append_nil]; exact hs
theorem Sat.mkNew {w : World} (h : Sat X w ρ H) {c cs : List Value} (e : TypeId) (hv : VRl ρ c cs) :
    Sat X (w.alloc (.cells cs.toArray e)) (ρ ++ [(w.heap.size, 0)]) (H ++ [SX.mk c]) := by
  unfold SX.mk
  split
  · rename_i hl
    obtain rfl := VRl.leaf_eq _ _ hl hv
    exact h.allocFlat e hl
  · exact h.alloc e hv
theorem new_ptr {w : World} (hw : Sat X w ρ H) (hb : H.length < BAD) : AR (ρ ++ [(w.heap.size, 0)]) ⟨H.length, 0, none⟩ ⟨w.heap.size, 0, none⟩ := by
  refine ⟨(w.heap.size, 0), ?_, rfl, by simp⟩
  unfold Ren.at?
  rw [if_neg (by unfold GB; unfold BAD at hb; simp only; omega), if_neg (by simp only; omega)]
  simp [← hw.len]
theorem box_ok {tt e : TypeId} {pos af gd} {d : Nat} {x : Operand} {w : World} (hN : d < N) (hw : Sat X w ρ H) (hs : Slots N ρ t a) (hx : okx x = true)
    (h : stepE X.GL H t (.box d x) K) : EffAt X N P ⟨some d, .box e x, tt, pos, af, gd⟩ ρ a w K := by
  simp only [stepE] at h
  obtain ⟨h1, h2, h3⟩ := h
  have hv := (hs.eval hx h1).cells
  refine ⟨.pointer (some ⟨w.heap.size, 0, none⟩), w.alloc (.cells (a.eval x).cells e), [(w.heap.size, 0)], _, _, .inl ?_, ?_, ?_, h3⟩
  · simp [execOp, Instr.box, newVar, newRow]
  · have := hw.mkNew e hv; simpa using this
  · exact (hs.mono _).put hN fun _ => by simp only [VR]; exact ⟨_, new_ptr hw h2, rfl⟩
theorem tzero_info {e : TypeId} {z : List Value} (hz : tzero P e = some z) : ∃ i zv, P.info? e = some i ∧ i.zero = some zv ∧ zv.cells = z.toArray ∧ leafL z = true := by
  unfold tzero at hz
  cases hi : P.info? e <;> simp [hi] at hz
  rename_i i
  cases hzv : i.zero <;> simp [hzv] at hz
  exact ⟨i, _, rfl, hzv, by simp [← hz.2], hz.2 ▸ hz.1⟩
theorem new_ok {tt e : TypeId} {pos af gd} {d : Nat} {z : List Value} {w : World} (hz : tzero P e = some z) (hN : d < N) (hw : Sat X w ρ H) (hs : Slots N ρ t a)
    (h : stepE X.GL H t (.new d z) K) : EffAt X N P ⟨some d, .alloc e, tt, pos, af, gd⟩ ρ a w K := by
  simp only [stepE] at h
  obtain ⟨h2, h3⟩ := h
  obtain ⟨i, zv, hi, hzv, hzc, hzl⟩ := tzero_info hz
  refine ⟨.pointer (some ⟨w.heap.size, 0, none⟩), w.alloc (.cells z.toArray e), [(w.heap.size, 0)], _, _, .inl ?_, hw.allocFlat e hzl, ?_, h3⟩
  · simp [execOp, Instr.alloc, zeroValue, typeInfo, hi, hzv, newVar, newRow, hzc]
  · exact (hs.mono _).put hN fun _ => by simp only [VR]; exact ⟨_, new_ptr hw h2, rfl⟩
theorem range_map_mod (z : List Value) : ∀ (n : Nat), (List.range (n * z.length)).map (fun i => (z.toArray)[i % z.length]!) = (List.replicate n z).flatten
  | 0 => by simp
  | n + 1 => by
    rw [Nat.add_mul, Nat.one_mul, Nat.add_comm, List.range_add, List.map_append, List.replicate_succ, List.flatten_cons, ← range_map_mod z n]
    congr 1
    · apply List.ext_getElem
      · simp
      · intro i h1 h2
        simp at h1
        simp [Nat.mod_eq_of_lt h2, h2]
    · rw [List.map_map]
      apply List.map_congr_left
      intro i _
      simp
theorem bsl_ok {tt ty e : TypeId} {pos af gd} {d n sz : Nat} {z : List Value} {parts : Array (Nat × Operand)} {ps : List (Nat × Nat × Operand)} {w : World}
    (hu : P.underlying ty = some (.slice e)) (hz : tsize P e = some sz) (hzz : (if n * sz = 0 then some [] else tzero P e) = some z) (hp : partsOf ((List.range n).map fun i => (i * sz, sz)) parts.toList = some ps)
    (hle : n * sz ≤ 16777216) (hzl : n * sz = 0 ∨ z.length = sz) (hN : d < N) (hw : Sat X w ρ H) (hs : Slots N ρ t a)
    (h : stepE X.GL H t (.bsl d n sz ((List.replicate n z).flatten) ps) K) : EffAt X N P ⟨some d, .buildSlice ty n parts, tt, pos, af, gd⟩ ρ a w K := by
  simp only [stepE] at h
  obtain ⟨h2, h3⟩ := h
  have hlf : leafL z = true := by
    split at hzz
    · simp at hzz; subst hzz; rfl
    · obtain ⟨_, _, _, _, _, h⟩ := tzero_info hzz; exact h
  have hrep : leafL ((List.replicate n z).flatten) = true := by
    clear hzz hp hle hzl h3 
    induction n with
    | zero => simp [leafL]
    | succ n ih => simp only [List.replicate_succ, List.flatten_cons, leafL_append, hlf, ih, Bool.and_self]
  obtain ⟨l, m, hk, hv, hr⟩ := fill_of (place := fun i => some (i * sz, sz)) (fun i q hq => by
    rw [List.getElem?_map] at hq
    cases hi : (List.range n)[i]? <;> simp [hi] at hq
    rw [List.getElem?_eq_some_iff] at hi
    obtain ⟨_, hi⟩ := hi
    simp at hi
    rw [hi, hq]) hp hs (VRl.leaf _ hrep) h3
  refine ⟨.slice (some ⟨w.heap.size, 0, none⟩) n n, w.alloc (.cells m.toArray e), [(w.heap.size, 0)], _, _, .inl ?_, ?_, ?_, hk⟩
  · have hzero : ((Array.range (n * sz)).map fun i => (z.toArray)[i % z.toArray.size]!) = ((List.replicate n z).flatten).toArray := by
      rcases hzl with h0 | h0
      · rw [h0]
        rw [if_pos h0] at hzz
        simp at hzz; subst hzz
        simp
      · rw [← h0]
        apply Array.toList_inj.1
        simp only [Array.toList_map, Array.toList_range, List.size_toArray]
        exact range_map_mod z n
    have hnle : ¬ (2 ^ 24 < n * sz) := by omega
    by_cases h0 : n * sz = 0
    · rw [if_pos h0] at hzz
      simp at hzz; subst hzz
      simp at hr
      have hr0 : Array.range 0 = #[] := rfl
      simp [execOp, Instr.buildSlice, run_underlying hu, run_sizeOf hz, newRow, hnle, h0, hr, hr0]
    · rw [if_neg h0] at hzz
      obtain ⟨i, zv, hi, hzv, hzc, _⟩ := tzero_info hzz
      have hf : ∀ (x : Array Value), x = ((List.replicate n z).flatten).toArray → Instr.fill (fun i => some (i * sz, sz)) x ((parts.map fun (i, x) => (i, a.eval x)).toList) = some m.toArray := by
        intro x hx; rw [hx]; simpa using hr
      have hf := hf _ hzero
      simp at hf
      simp [execOp, Instr.buildSlice, run_underlying hu, run_sizeOf hz, newRow, hnle, h0, zeroValue, typeInfo, hi, hzv, hzc, hf]
  · exact hw.mkNew e hv
  · exact (hs.mono _).put hN fun _ => by simp only [VR]; exact ⟨_, new_ptr hw h2, rfl⟩
end
end Go.SX
