/-
  Operations by a law of their own: append; bytes to a string.
-/
import Derived.Test.YtbiaogehcnedmaaDoorSxO
import Derived.Laws.Append
import Derived.Laws.BytesString
set_option linter.unusedVariables false
set_option linter.unusedSimpArgs false
namespace Go.SX
open Go
section
variable {X : Cx} {N : Nat} {P : Program} {ρ : Ren} {H : List SB} {t : Env} {a : Act} {w w' : World}

/-- One region more, of a block that no other live region shares. -/
theorem Sat.add (h : Sat X w ρ H) {p : Nat × Nat} {o : SB} (hok : SBok (ρ ++ [p]) w p o) (hown : X.D p.1 ∨ X.w0.heap.size ≤ p.1) (hlt : p.1 < w.heap.size)
    (hd : ∀ (s : Nat) (q : Nat × Nat) (y : SB), ρ[s]? = some q → H[s]? = some y → y.live = true → q.1 ≠ p.1) (hg : ∀ g c, (g, c) ∈ X.GL → p.1 ≠ g) : Sat X w (ρ ++ [p]) (H ++ [o]) where
  os := h.os
  tape := h.tape
  output := h.output
  size := h.size
  old := h.old
  len := by simp [h.len]
  exp := by have := h.exp; simp; omega
  ok := fun r q y hp hy => by
    rcases getElem?_snoc hp with ⟨rfl, rfl⟩ | ⟨hr, hp⟩
    · rcases getElem?_snoc hy with ⟨_, rfl⟩ | ⟨hr, _⟩
      · exact hok
      · rw [h.len] at hr; omega
    · rcases getElem?_snoc hy with ⟨e, _⟩ | ⟨_, hy⟩
      · rw [h.len] at hr; omega
      · exact (h.ok r q y hp hy).mono
  dist := fun r r' q q' y y' hp hp' hy hy' l l' hwr e => by
    rcases getElem?_snoc hp with ⟨hr0, hq0⟩ | ⟨hr, hp2⟩
    · rcases getElem?_snoc hp' with ⟨hr0', hq0'⟩ | ⟨hr', hp2'⟩
      · omega
      · rcases getElem?_snoc hy' with ⟨e', _⟩ | ⟨_, hy2'⟩
        · rw [h.len] at hr'; omega
        · rw [hq0] at e; exact absurd e.symm (hd r' q' y' hp2' hy2' l')
    · rcases getElem?_snoc hy with ⟨e', _⟩ | ⟨_, hy2⟩
      · rw [h.len] at hr; omega
      · rcases getElem?_snoc hp' with ⟨hr0', hq0'⟩ | ⟨hr', hp2'⟩
        · rw [hq0'] at e; exact absurd e (hd r q y hp2 hy2 l)
        · rcases getElem?_snoc hy' with ⟨e', _⟩ | ⟨_, hy2'⟩
          · rw [h.len] at hr'; omega
          · exact h.dist r r' q q' y y' hp2 hp2' hy2 hy2' l l' hwr e
  own := fun r q y hp hy hwr => by
    rcases getElem?_snoc hp with ⟨rfl, rfl⟩ | ⟨hr, hp⟩
    · exact hown
    · rcases getElem?_snoc hy with ⟨e, _⟩ | ⟨_, hy⟩
      · rw [h.len] at hr; omega
      · exact h.own r q y hp hy hwr
  lt := fun r q y hp hy hl => by
    rcases getElem?_snoc hp with ⟨rfl, rfl⟩ | ⟨hr, hp⟩
    · exact hlt
    · rcases getElem?_snoc hy with ⟨e, _⟩ | ⟨_, hy⟩
      · rw [h.len] at hr; omega
      · exact h.lt r q y hp hy hl
  rdo := fun r q y hp hy hl => by
    rcases getElem?_snoc hp with ⟨rfl, rfl⟩ | ⟨hr, hp⟩
    · exact hown.elim .inl (fun h => .inr (.inr h))
    · rcases getElem?_snoc hy with ⟨e, _⟩ | ⟨_, hy⟩
      · rw [h.len] at hr; omega
      · exact h.rdo r q y hp hy hl
  glob := h.glob
  globD := fun r q y g c hp hy hwr hgl => by
    rcases getElem?_snoc hp with ⟨rfl, rfl⟩ | ⟨hr, hp⟩
    · exact hg g c hgl
    · rcases getElem?_snoc hy with ⟨e, _⟩ | ⟨_, hy⟩
      · rw [h.len] at hr; omega
      · exact h.globD r q y g c hp hy hwr hgl
/-- The block behind region 'r' is written; it is known from another place on. -/
theorem Sat.rebase (h : Sat X w ρ H) {r : Nat} {p p' : Nat × Nat} {o o' : SB} (hp : ρ[r]? = some p) (ho : H[r]? = some o) (hw : o.wr = true)
    (hl : o.live = true) (hos : w'.os = w.os) (htape : w'.tape = w.tape) (hout : w'.output = w.output) (hsz : w'.heap.size = w.heap.size)
    (hb : ∀ k, k ≠ p.1 → w'.heap[k]? = w.heap[k]?) (hpp : p'.1 = p.1) (hok : SBok (ρ ++ [p']) w' p' o') : Sat X w' (ρ ++ [p']) (H.set r .dead ++ [o']) := by
  have h1 : Sat X w' ρ (H.set r .dead) := h.update hp ho hw hl hos htape hout hsz hb trivial
  refine h1.add hok (by rw [hpp]; exact h.own r p o hp ho hw) (by rw [hpp, hsz]; exact h.lt r p o hp ho hl) (fun s q y hq hy hyl e => ?_) (fun g c hg => by rw [hpp]; exact h.globD r p o g c hp ho hw hg)
  rcases getElem?_set' hy with ⟨rfl, rfl⟩ | ⟨hs, hy⟩
  · simp [SB.live] at hyl
  · exact hs (h.dist r s p q o y hp hq ho hy hl hyl hw (by rw [e, hpp])).symm
/-- Less of what lies there. -/
theorem CellsAt.less {p : Nat × Nat} {cs : List Value} {room : Nat} {wr : Bool} (h : CellsAt w p cs room wr) (k : Nat) : CellsAt w p (cs.take k) room wr := by
  obtain ⟨pre, rest, e, fr, h1, h2, h3, h4⟩ := h
  have e1 : cs.take k ++ (cs.drop k ++ rest) = cs ++ rest := by rw [← List.append_assoc, List.take_append_drop]
  have e2 : (cs.take k).length + (cs.drop k ++ rest).length = cs.length + rest.length := by
    have := congrArg List.length e1
    simpa using this
  refine ⟨pre, cs.drop k ++ rest, e, fr, ?_, h2, by omega, ?_⟩
  · rw [h1, List.append_assoc, List.append_assoc, e1]
  · intro hw i hi1 hi2; exact h4 hw i hi1 (by omega)
/-- More of what lies there. -/
theorem CellsAt.more {p : Nat × Nat} {cs : List Value} {room : Nat} {wr : Bool} (h : CellsAt w p cs room wr) {m : Nat} (hm : cs.length + m ≤ room) : ∃ ys, ys.length = m ∧ CellsAt w p (cs ++ ys) room wr := by
  obtain ⟨pre, rest, e, fr, h1, h2, h3, h4⟩ := h
  refine ⟨rest.take m, by simp; omega, pre, rest.drop m, e, fr, ?_, h2, by simp; omega, ?_⟩
  · rw [h1]; simp [List.append_assoc]
  · intro hw i hi1 hi2; exact h4 hw i hi1 (by simp at hi2; omega)
/-- From another place on. -/
theorem CellsAt.from {p : Nat × Nat} {cs : List Value} {room : Nat} {wr : Bool} (h : CellsAt w p cs room wr) {k room' : Nat} (hk : k ≤ cs.length) (hr : room' + k ≤ room) : CellsAt w (p.1, p.2 + k) (cs.drop k) room' wr := by
  obtain ⟨pre, rest, e, fr, h1, h2, h3, h4⟩ := h
  refine ⟨pre ++ cs.take k, rest, e, fr, ?_, by simp; omega, by simp; omega, ?_⟩
  · rw [h1]; simp only [List.append_assoc]
    have : cs ++ rest = cs.take k ++ (cs.drop k ++ rest) := by rw [← List.append_assoc, List.take_append_drop]
    rw [this]
  · intro hw i hi1 hi2; exact h4 hw i (by simp at hi1; omega) (by simp at hi2 hi1; omega)
theorem setAll_end : ∀ {xs ys cs : List Value}, ys.length = xs.length → setAll (cs ++ ys) cs.length xs = cs ++ xs
  | [], [], cs, _ => rfl
  | x :: xs, y :: ys, cs, h => by
    simp only [setAll]
    have : (cs ++ y :: ys).set cs.length x = (cs ++ [x]) ++ ys := by simp [List.append_assoc]
    rw [this]
    have := setAll_end (xs := xs) (ys := ys) (cs := cs ++ [x]) (by simpa using h)
    simp only [List.length_append, List.length_cons, List.length_nil] at this
    rw [show cs.length + 1 = cs.length + (0 + 1) from rfl, this]
    simp [List.append_assoc]
  | [], y :: ys, cs, h => by simp at h
  | x :: xs, [], cs, h => by simp at h
/-- A region of known cells, with room. -/
def mkR (cs : List Value) (room : Nat) : SB := if leafL cs = true then .flat cs room true else .cells cs room true
theorem mkR_ok {ρ : Ren} {p : Nat × Nat} {c cs : List Value} {room : Nat} (hv : VRl ρ c cs) (h : CellsAt w p cs room true) : SBok ρ w p (mkR c room) := by
  unfold mkR
  split
  · rename_i hl
    obtain rfl := VRl.leaf_eq _ _ hl hv
    exact ⟨hl, h⟩
  · exact ⟨cs, hv, h⟩
/-- The cells of a slice. -/
def srcC (GL : List (Nat × List Value)) (H : List SB) (a : Option Addr) (k : Nat) : Option (List Value) := match a with
  | some b => rdn (look GL H b.block) b.off k
  | none => if k = 0 then some [] else none
/-- The region that is appended to. -/
def dstC (H : List SB) (a : Option Addr) (n cap : Nat) : Option (List Value) := match a with
  | none => if n = 0 ∧ cap = 0 then some [] else none
  | some b => match b.spot, H[b.block]? with
    | none, some (.flat c room true) => if b.block < BAD ∧ b.off + n ≤ c.length ∧ b.off + cap ≤ room ∧ n ≤ cap then some ((c.take (b.off + n)).drop b.off) else none
    | none, some (.cells c room true) => if b.block < BAD ∧ b.off + n ≤ c.length ∧ b.off + cap ≤ room ∧ n ≤ cap then some ((c.take (b.off + n)).drop b.off) else none
    | _, _ => none
def killO (H : List SB) : Option Addr → List SB
  | none => H
  | some b => H.set b.block .dead
theorem dstC_some {b : Addr} {n cap : Nat} {c : List Value} (h : dstC H (some b) n cap = some c) : b.spot = none ∧ b.block < BAD ∧ ∃ o room, H[b.block]? = some o ∧ o.wr = true ∧ o.live = true ∧
    b.off + n ≤ (csOf o).length ∧ b.off + cap ≤ room ∧ n ≤ cap ∧ c = ((csOf o).take (b.off + n)).drop b.off ∧ ∀ {ρ : Ren} {w : World} {p : Nat × Nat}, SBok ρ w p o → ∃ cs, VRl ρ (csOf o) cs ∧ CellsAt w p cs room true := by
  unfold dstC at h
  dsimp only at h
  split at h <;> try (cases h; done)
  all_goals
    split at h <;> try (cases h; done)
    rename_i hs ho hc
    simp only [Option.some.injEq] at h
    refine ⟨hs, hc.1, _, _, ho, rfl, rfl, hc.2.1, hc.2.2.1, hc.2.2.2, h.symm, ?_⟩
    intro ρ w p hok
  · obtain ⟨h1, h2⟩ := hok; exact ⟨_, VRl.leaf _ h1, h2⟩
  · exact hok
theorem srcC_ok {w : World} (hw : Sat X w ρ H) {a : Option Addr} {m c k : Nat} {src : List Value} (h : srcC X.GL H a k = some src) {x : Value} (hx : VR ρ (.slice a m c) x) :
    ∃ xa xs, x = .slice xa m c ∧ VRl ρ src xs ∧ xs.length = k ∧ (∀ b, xa = some b → ∀ j v, xs[j]? = some v → w.cell? (b.add j) = some v) ∧ (xa = none → k = 0) := by
  cases a with
  | none =>
    unfold srcC at h
    dsimp only at h
    split at h <;> try (cases h; done)
    rename_i hk
    simp only [Option.some.injEq] at h; subst h
    simp only [VR] at hx; subst hx
    exact ⟨none, [], rfl, by simp [VRl], by simp [hk], by simp, fun _ => hk⟩
  | some b =>
    unfold srcC at h
    dsimp only at h
    simp only [VR] at hx
    obtain ⟨y, hy, rfl⟩ := hx
    obtain ⟨o, ho, hi, hl, hk⟩ := rdn_some h
    obtain ⟨q, hq, rfl⟩ := hy.at
    obtain ⟨cs, room, wr, k1, k2⟩ := (hw.look ho hq).cellsAt hk
    have hlen := k1.length
    refine ⟨_, (cs.drop b.off).take k, rfl, by rw [hl]; exact (k1.drop _).take _, by simp; omega, ?_, by simp⟩
    intro b' hb j v hj
    cases hb
    have : (⟨q.1, q.2 + b.off, none⟩ : Addr).add j = ⟨q.1, q.2 + (b.off + j), none⟩ := by unfold Addr.add; split <;> simp_all [Nat.add_assoc]
    rw [this]
    apply k2.cell
    rw [List.getElem?_take] at hj
    split at hj
    · simpa using hj
    · cases hj
theorem execOp_append {o : Oper} {s x : Operand} {ty : TypeId} (ho : o.op = .call { callee := .builtin .append, args := #[s, x], argTypes := #[ty, ty] }) {v : Value} {w w' : World}
    (h : (Builtin.append_ #[ty, ty] o.type #[a.eval s, a.eval x]).run P w = .ok v w') : (execOp a.eval o).run P w = .ok (.value v) w' := by
  unfold execOp
  simp only [ho, resolve, invoke, builtin, Sem.run_bind, Sem.run_pure, Result.andThen_ok, List.map_toArray, List.map_cons, List.map_nil, h]
theorem run_append_place {ty e : TypeId} {i : TypeInfo} (tt : TypeId) (ht : P.underlying ty = some (.slice e)) (hi : P.info? e = some i) {b : Option Addr} {xa : Option Addr} {sLen sCap m c : Nat} {xs : List Value} {w w' : World}
    (hf : (Builtin.firstCells i.size m (.slice xa m c)).run P w = .ok xs.toArray w) (hroom : sLen + m ≤ sCap) (hst : ∀ a, b = some a → (storeCells (a.add (sLen * i.size)) xs).run P w = .ok () w') (hn : b = none → w' = w) :
    (Builtin.append_ #[ty, ty] tt #[.slice b sLen sCap, .slice xa m c]).run P w = .ok (.slice b (sLen + m) sCap) w' := by
  cases b with
  | none => obtain rfl := hn rfl; simp [Builtin.append_, run_underlying ht, sizeOf, typeInfo, hi, Builtin.lenOf, hroom, hf]
  | some a => simp [Builtin.append_, run_underlying ht, sizeOf, typeInfo, hi, Builtin.lenOf, hroom, hf, hst a rfl]
theorem append_ok {K : Env → List SB → Prop} {o : Oper} {d : Nat} {s x : Operand} {ty e : TypeId} {i : TypeInfo} {z : Value} {sz : Nat} {sa xa : Option Addr} {n cap m xc : Nat} {old src : List Value}
    (ho : o.op = .call { callee := .builtin .append, args := #[s, x], argTypes := #[ty, ty] }) (hd : o.dst = some d) (hN : d < N) (hs : okx s = true) (hx : okx x = true)
    (ht : P.underlying ty = some (.slice e)) (hi : P.info? e = some i) (hz : i.zero = some z) (hsz : i.size = sz) (hzl : z.cells.size = sz) (h0 : 0 < sz) (hby : 0 < i.bytes)
    (es : oe t s = .slice sa n cap) (ex : oe t x = .slice xa m xc) (h48 : (n + m) * i.bytes ≤ 140737488355328) (hB : H.length < BAD)
    (hdst : dstC H sa (n * sz) (cap * sz) = some old) (hsrc : srcC X.GL H xa (m * sz) = some src) (hone : oneL src = true) (hne : ∀ b b', sa = some b → xa = some b' → b.block ≠ b'.block)
    (hk : ∀ cap' room, n + m ≤ cap' → cap' * sz ≤ room → K (SX.put t d (.slice (some ⟨H.length, 0, none⟩) (n + m) cap')) (killO H sa ++ [mkR (old ++ src) room]))
    (hk0 : sa = none → m = 0 → K (SX.put t d (.slice none 0 0)) H) : HardK X N P o t H K := by
  intro w a ρ hw hsl next Q hnx
  have hvs := hsl.eval hs (by rw [es]; rfl)
  have hvx := hsl.eval hx (by rw [ex]; rfl)
  rw [es] at hvs
  rw [ex] at hvx
  obtain ⟨ya, xs, e2, hxs, hxl, hxc, hxn⟩ := srcC_ok hw hsrc hvx
  have hxone := hxs.one hone
  have fin : ∀ {v : Value} {w' : World} {e' : Ren} {t' : Env} {H' : List SB}, (Builtin.append_ #[ty, ty] o.type #[a.eval s, a.eval x]).run P w = .ok v w' → Sat X w' (ρ ++ e') H' → Slots N (ρ ++ e') t' (a.put o.dst v) → K t' H' → o.wp P a w next Q := by
    intro v w' e' t' H' hr hw' hs' hk'
    unfold Oper.wp
    rw [execOp_append ho hr]
    exact hnx _ _ _ _ _ hw' hs' hk'
  rw [hd] at *
  have hm63 : n + m ≤ 140737488355328 := Nat.le_trans (Nat.le_mul_of_pos_right _ hby) h48
  have newslot : ∀ {p : Nat × Nat} {cap' : Nat}, Slots N (ρ ++ [p]) (SX.put t d (.slice (some ⟨H.length, 0, none⟩) (n + m) cap')) (a.put (some d) (.slice (some ⟨p.1, p.2, none⟩) (n + m) cap')) := by
    intro p cap'
    refine (hsl.mono _).put hN fun _ => ?_
    simp only [VR]
    refine ⟨⟨p.1, p.2, none⟩, ⟨p, ?_, rfl, by simp⟩, rfl⟩
    unfold Ren.at?
    rw [if_neg (by unfold GB; unfold BAD at hB; simp only; omega), if_neg (by simp only; omega)]
    simp [← hw.len]
  -- the new row
  have grown : ∀ {olds ys : List Value}, VRl ρ old olds → (∀ b, sa = some b → b.block < H.length) → Sat X ((w.drew.alloc (.cells (olds.toArray ++ xs.toArray ++ ys.toArray) e))) (ρ ++ [(w.heap.size, 0)]) (killO H sa ++ [mkR (old ++ src) (olds.length + xs.length + ys.length)]) := by
    intro olds ys hol hlt
    have h1 : Sat X (w.drew.alloc (.cells (olds.toArray ++ xs.toArray ++ ys.toArray) e)) (ρ ++ [(w.heap.size, 0)]) (H ++ [mkR (old ++ src) (olds.length + xs.length + ys.length)]) := by
      refine (hw.drew).extend (w' := w.drew.alloc (.cells (olds.toArray ++ xs.toArray ++ ys.toArray) e)) (b := w.heap.size) rfl rfl rfl (by simp) (fun k hk => heap_alloc_old w.drew _ hk) (Nat.le_refl _) (by simp) 0 (mkR_ok ((hol.append hxs).mono _) ⟨[], ys, e, (0, 0), ?_, rfl, ?_, ?_⟩)
      · have := heap_alloc_new w.drew (.cells (olds.toArray ++ xs.toArray ++ ys.toArray) e)
        simpa using this
      · simp
      · intro _ j _ _; simp
    cases sa with
    | none => exact h1
    | some b =>
      have := h1.kill b.block
      rw [List.set_append_left _ _ (hlt b rfl)] at this
      exact this
  cases sa with
  | none =>
    unfold dstC at hdst
    dsimp only at hdst
    split at hdst <;> try (cases hdst; done)
    rename_i h00
    simp only [Option.some.injEq] at hdst; subst hdst
    have hn : n = 0 := by rcases Nat.mul_eq_zero.1 h00.1 with h | h <;> omega
    have hc : cap = 0 := by rcases Nat.mul_eq_zero.1 h00.2 with h | h <;> omega
    subst hn hc
    simp only [VR] at hvs
    rcases Nat.eq_zero_or_pos m with hm | hm
    · subst hm
      have hx0 : xs = [] := List.eq_nil_of_length_eq_zero (by omega)
      subst hx0
      refine fin (v := .slice none 0 0) (w' := w) (e' := []) (t' := SX.put t d (.slice none 0 0)) (H' := H) ?_ (by simpa using hw) (by simpa using hsl.put hN fun _ => by simp [VR]) (hk0 rfl rfl)
      rw [hvs, e2]
      refine run_append_place (xs := []) o.type ht hi ?_ (Nat.le_refl _) (by simp) (fun _ => rfl)
      cases ya with
      | none => simp [Builtin.firstCells]
      | some b' => exact run_firstCells_some w _ _ b' _ _ [] (by simp) (by simp)
    · cases ya with
      | none => have := hxn rfl; rcases Nat.mul_eq_zero.1 this with h | h <;> omega
      | some b' =>
        have hr := run_append_nil (P := P) w ty o.type e i z ht hi hz b' m xc xs (by rw [hsz]; exact hxl) (hxc b' rfl) hm (by omega) (by rw [Nat.zero_add] at h48; omega)
        rw [← hvs, ← e2] at hr
        have hg : m ≤ grownCap w m 0 e := by simp [grownCap, Question.cut]
        have hsat := grown (olds := []) (ys := (Builtin.zeroCells z.cells (grownCap w m 0 e - m)).toList) (by simp [VRl]) (by simp)
        have hkk := hk (grownCap w m 0 e) (0 + xs.length + (Builtin.zeroCells z.cells (grownCap w m 0 e - m)).toList.length) (by omega) (by
          rw [hxl]; simp [Builtin.zeroCells, hzl, ← Nat.add_mul]; rw [Nat.add_sub_cancel' hg]; exact Nat.le_refl _)
        refine fin hr (by simpa using hsat) (by simpa using newslot (p := (w.heap.size, 0)) (cap' := grownCap w m 0 e)) (by simpa using hkk)
  | some b =>
    obtain ⟨hsp, hbad, o', room, ho', hwr, hl, hlen, hroom, hnc, rfl, hsb⟩ := dstC_some hdst
    have hblt : b.block < H.length := (List.getElem?_eq_some_iff.1 ho').1
    simp only [VR] at hvs
    obtain ⟨y, ⟨p, hp, _, rfl⟩, hvs⟩ := hvs
    have hp' : ρ[b.block]? = some p := by
      unfold Ren.at? at hp
      rw [if_neg (by unfold GB; unfold BAD at hbad; omega), if_neg (by omega)] at hp
      exact hp
    obtain ⟨cs0, hcv0, hcc0⟩ := hsb (hw.ok _ p o' hp' ho')
    have hcl0 := hcv0.length
    have hcv := hcv0.take (b.off + n * sz)
    have hcc := hcc0.less (b.off + n * sz)
    have hlen' : ((csOf o').take (b.off + n * sz)).length = b.off + n * sz := by simp; omega
    generalize (csOf o').take (b.off + n * sz) = co at *
    generalize cs0.take (b.off + n * sz) = cs at *
    have hcl := hcv.length
    have hadd : ∀ j, (⟨p.1, p.2 + b.off, none⟩ : Addr).add j = ⟨p.1, p.2 + (b.off + j), none⟩ := fun j => by unfold Addr.add; split <;> simp_all [Nat.add_assoc]
    by_cases hfit : n + m ≤ cap
    · obtain ⟨ys, hyl, hcm⟩ := hcc.more (m := m * sz) (by
        have : (n + m) * sz ≤ cap * sz := Nat.mul_le_mul_right _ hfit
        rw [Nat.add_mul] at this; omega)
      obtain ⟨w', r1, r2, r3, r4, r5, r6, r7⟩ := run_storeCells (P := P) (b.off + n * sz) xs 0 (cs ++ ys) w hcm (by simp; omega) hxone
      have e3 : b.off + n * sz + 0 = cs.length := by omega
      rw [e3, setAll_end (by omega)] at r2
      have hf : (Builtin.firstCells i.size m (.slice ya m xc)).run P w = .ok xs.toArray w := by
        cases ya with
        | none =>
          have := hxn rfl
          have hx0 : xs = [] := List.eq_nil_of_length_eq_zero (by omega)
          subst hx0
          simp [Builtin.firstCells]
        | some b' => exact run_firstCells_some w _ _ b' _ _ xs (by rw [hsz]; exact hxl) (hxc b' rfl)
      have hr := run_append_place (b := some ⟨p.1, p.2 + b.off, none⟩) (sLen := n) (sCap := cap) (w' := w') o.type ht hi hf hfit (fun a' ha' => by
        cases ha'
        rw [hsz, hadd]
        simpa [Nat.add_assoc] using r1) (by simp)
      rw [← hvs, ← e2] at hr
      have r2' := CellsAt.from (room' := cap * sz) r2 (k := b.off) (by simp; omega) (by omega)
      rw [List.drop_append_of_le_length (by omega)] at r2'
      have hsat : Sat X w' (ρ ++ [(p.1, p.2 + b.off)]) (killO H (some b) ++ [mkR (co.drop b.off ++ src) (cap * sz)]) :=
        hw.rebase hp' ho' hwr hl r4 r5 r6 r3 r7 rfl (mkR_ok (((hcv.drop _).append hxs).mono _) r2')
      exact fin hr hsat (newslot (p := (p.1, p.2 + b.off)) (cap' := cap)) (hk cap (cap * sz) hfit (Nat.le_refl _))
    · cases ya with
      | none =>
        have := hxn rfl
        have hm : m = 0 := by rcases Nat.mul_eq_zero.1 this with h | h <;> omega
        have hncc : n ≤ cap := Nat.le_of_mul_le_mul_right hnc h0
        omega
      | some b' =>
        have hncc : n ≤ cap := Nat.le_of_mul_le_mul_right hnc h0
        have hr := run_append_grow (P := P) w ty o.type e i z ht hi hz ⟨p.1, p.2 + b.off, none⟩ n cap (cs.drop b.off) (by rw [hsz]; simp; omega) (fun j v hj => by
          rw [hadd]; exact hcc.cell (by simpa using hj)) b' m xc xs (by rw [hsz]; exact hxl) (hxc b' rfl) (by omega) (by omega) (growslice_fits (by omega) h48)
        rw [← hvs, ← e2] at hr
        have hg : n + m ≤ grownCap w (n + m) cap e := by simp [grownCap, Question.cut]
        have hsat := grown (olds := cs.drop b.off) (ys := (Builtin.zeroCells z.cells (grownCap w (n + m) cap e - (n + m))).toList) (hcv.drop _) (fun b2 h2 => by cases h2; exact hblt)
        have hkk := hk (grownCap w (n + m) cap e) ((cs.drop b.off).length + xs.length + (Builtin.zeroCells z.cells (grownCap w (n + m) cap e - (n + m))).toList.length) (by omega) (by
          have e5 : (cs.drop b.off).length = n * sz := by simp; omega
          rw [hxl, e5]; simp [Builtin.zeroCells, hzl]; rw [← Nat.add_mul, ← Nat.add_mul, Nat.add_sub_cancel' hg]; exact Nat.le_refl _)
        exact fin hr (by simpa using hsat) (by simpa using newslot (p := (w.heap.size, 0)) (cap' := grownCap w (n + m) cap e)) hkk
/-- The bytes of a string. -/
def ba (ns : List Int) : ByteArray := ⟨(ns.map fun n => UInt8.ofNat n.toNat).toArray⟩
theorem foldl_ba : ∀ (ns : List Int) (s : ByteArray), ns.foldl (fun r n => r.push (UInt8.ofNat n.toNat)) s = ⟨s.data ++ (ns.map fun n => UInt8.ofNat n.toNat).toArray⟩
  | [], s => by simp
  | n :: ns, s => by
    rw [List.foldl_cons, foldl_ba ns]
    simp [ByteArray.push]
theorem ba_inj {ns ms : List Int} (hn : ∀ n ∈ ns, 0 ≤ n ∧ n < 256) (hm : ∀ n ∈ ms, 0 ≤ n ∧ n < 256) (h : (ba ns).data = (ba ms).data) : ns = ms := by
  have h : (ns.map fun n => UInt8.ofNat n.toNat) = (ms.map fun n => UInt8.ofNat n.toNat) := by simpa [ba] using h
  induction ns generalizing ms with
  | nil => cases ms <;> simp_all
  | cons n ns ih =>
    cases ms with
    | nil => simp at h
    | cons m ms =>
      simp only [List.map_cons, List.cons.injEq] at h
      have h1 := hn n (by simp)
      have h2 := hm m (by simp)
      have : n = m := by
        have := congrArg UInt8.toNat h.1
        simp at this
        omega
      rw [this, ih (fun k hk => hn k (by simp [hk])) (fun k hk => hm k (by simp [hk])) (by simpa [ba] using h.2) h.2]
theorem strconv_ok {K : Env → List SB → Prop} {o : Oper} {d : Nat} {x : Operand} {src dst e : TypeId} {xa : Option Addr} {m xc : Nat} {ns : List Int}
    (ho : o.op = .convert src dst x) (hd : o.dst = some d) (hN : d < N) (hx : okx x = true)
    (hs : P.underlying src = some (.slice e)) (he : P.underlying e = some (.int .u8)) (hdt : P.underlying dst = some .string)
    (ex : oe t x = .slice xa m xc) (hsrc : srcC X.GL H xa m = some (ns.map (Value.int .u8)))
    (hk : K (SX.put t d (.string (ba ns))) H) : HardK X N P o t H K := by
  intro w a ρ hw hsl next Q hnx
  have hvx := hsl.eval hx (by rw [ex]; rfl)
  rw [ex] at hvx
  obtain ⟨ya, xs, e2, hxs, hxl, hxc, hxn⟩ := srcC_ok hw hsrc hvx
  have hleaf : leafL (ns.map (Value.int .u8)) = true := leafL_iff.2 fun v hv => by obtain ⟨n, _, rfl⟩ := List.mem_map.1 hv; rfl
  obtain rfl := VRl.leaf_eq _ _ hleaf hxs
  have hr : (convert src dst (a.eval x)).run P w = .ok (.string (ba ns)) w := by
    rw [e2, run_convert_bytes_string w src dst e _ _ _ hs he hdt]
    cases ya with
    | none =>
      have hm : m = 0 := hxn rfl
      have : ns = [] := by
        have : ns.length = 0 := by simpa [hm] using hxl
        exact List.eq_nil_of_length_eq_zero this
      subst this
      rfl
    | some b =>
      have h := run_loadCells_list (P := P) (w := w) b _ (hxc b rfl)
      rw [hxl] at h
      rw [run_bytesToString w b m xc ns h, foldl_ba]
      simp [ba, ByteArray.empty, ByteArray.emptyWithCapacity]
      rfl
  unfold Oper.wp
  have : (execOp a.eval o).run P w = .ok (.value (.string (ba ns))) w := by
    simp [execOp, ho, hr]
  rw [this]
  show next (a.put o.dst (.string (ba ns))) w
  rw [hd] at *
  have hs' : Slots N (ρ ++ []) (SX.put t d (.string (ba ns))) (a.put (some d) (.string (ba ns))) := by rw [List.append_nil]; exact hsl.put hN fun _ => by simp [VR]
  exact hnx w _ [] _ H (by simpa using hw) hs' hk
end
end Go.SX
