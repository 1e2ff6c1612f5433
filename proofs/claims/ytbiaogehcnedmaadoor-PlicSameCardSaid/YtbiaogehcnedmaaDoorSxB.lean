/-
  What a world holds for a symbolic heap, and what reading, writing, making blocks and draws do to that.
-/
import Derived.Test.YtbiaogehcnedmaaDoorSxA
set_option linter.unusedVariables false
set_option linter.unusedSimpArgs false
namespace Go.SX
open Go

/-! ### Regions -/
/-- A region: 'cells': its first cells, in which regions' numbers stand for blocks; 'flat': cells without addresses; 'room': so many cells there are at least; 'wr': it may be written. -/
inductive SB where
  | cells (c : List Value) (room : Nat) (wr : Bool)
  | flat (c : List Value) (room : Nat) (wr : Bool)
  | obj (o : Obj)
  | dead
def SB.live : SB → Bool
  | .dead => false
  | _ => true
def SB.wr : SB → Bool
  | .cells _ _ b => b
  | .flat _ _ b => b
  | .obj _ => true
  | .dead => false
/-- Block p.1 holds the cells 'cs' from place p.2 on. -/
def CellsAt (w : World) (p : Nat × Nat) (cs : List Value) (room : Nat) (wr : Bool) : Prop :=
  ∃ pre rest e fr, w.heap[p.1]? = some (.cells (pre ++ cs ++ rest).toArray e fr) ∧ pre.length = p.2 ∧ room ≤ cs.length + rest.length ∧
    (wr = true → ∀ i, p.2 ≤ i → i < p.2 + cs.length + rest.length → ¬ (fr.1 ≤ i ∧ i < fr.2))
def MER (ρ : Ren) : List MapEntry → List MapEntry → Prop
  | [], [] => True
  | e :: es, x :: xs => (VR ρ e.key x.key ∧ VR ρ e.val x.val ∧ e.born = x.born) ∧ MER ρ es xs
  | _, _ => False
/-- Objects that are no cells. -/
def OR (ρ : Ren) : Obj → Obj → Prop
  | .map es cl, x => ∃ es', MER ρ es.toList es' ∧ x = .map es'.toArray cl
  | .mapIter none a b c, x => x = .mapIter none a b c
  | .mapIter (some m) a b c, x => ∃ k, ρ.at? m = some (k, 0) ∧ x = .mapIter (some k) a b c
  | .stringIter s p, x => x = .stringIter s p
  | .deferred none, x => x = .deferred none
  | .deferred (some []), x => x = .deferred (some [])
  | _, _ => False
def SBok (ρ : Ren) (w : World) (p : Nat × Nat) : SB → Prop
  | .cells c room wr => ∃ cs, VRl ρ c cs ∧ CellsAt w p cs room wr
  | .flat c room wr => leafL c = true ∧ CellsAt w p c room wr
  | .obj o => p.2 = 0 ∧ ∃ x, w.heap[p.1]? = some x ∧ OR ρ o x
  | .dead => True
/-- What does not turn within one function: the world in which it began, the old blocks that it may write, and read, the package-level variables that it knows, how many regions its caller knows. -/
structure Cx where
  w0 : World
  D : Nat → Prop
  E : Nat → Prop
  GL : List (Nat × List Value)
  n : Nat
/-- The world 'w' holds the symbolic heap 'H', its regions named by 'ρ'. -/
structure Sat (X : Cx) (w : World) (ρ : Ren) (H : List SB) : Prop where
  os : w.os = X.w0.os
  tape : w.tape = X.w0.tape
  output : w.output = X.w0.output
  size : X.w0.heap.size ≤ w.heap.size
  old : ∀ b, b < X.w0.heap.size → ¬ X.D b → w.heap[b]? = X.w0.heap[b]?
  len : ρ.length = H.length
  exp : X.n ≤ H.length
  ok : ∀ (r : Nat) (p : Nat × Nat) (o : SB), ρ[r]? = some p → H[r]? = some o → SBok ρ w p o
  dist : ∀ (r r' : Nat) (p p' : Nat × Nat) (o o' : SB), ρ[r]? = some p → ρ[r']? = some p' → H[r]? = some o → H[r']? = some o' → o.live = true → o'.live = true → o.wr = true → p.1 = p'.1 → r = r'
  own : ∀ (r : Nat) (p : Nat × Nat) (o : SB), ρ[r]? = some p → H[r]? = some o → o.wr = true → X.D p.1 ∨ X.w0.heap.size ≤ p.1
  lt : ∀ (r : Nat) (p : Nat × Nat) (o : SB), ρ[r]? = some p → H[r]? = some o → o.live = true → p.1 < w.heap.size
  rdo : ∀ (r : Nat) (p : Nat × Nat) (o : SB), ρ[r]? = some p → H[r]? = some o → o.live = true → X.D p.1 ∨ X.E p.1 ∨ X.w0.heap.size ≤ p.1
  glob : ∀ g c, (g, c) ∈ X.GL → leafL c = true ∧ CellsAt w (g, 0) c c.length false
  globD : ∀ (r : Nat) (p : Nat × Nat) (o : SB) (g : Nat) (c : List Value), ρ[r]? = some p → H[r]? = some o → o.wr = true → (g, c) ∈ X.GL → p.1 ≠ g

variable {X : Cx} {w w' : World} {ρ : Ren} {H : List SB}

theorem MER.mono {ρ e : Ren} : ∀ {a b : List MapEntry}, MER ρ a b → MER (ρ ++ e) a b
  | [], [], h => h
  | x :: xs, y :: ys, h => by simp only [MER] at *; exact ⟨⟨h.1.1.mono e, h.1.2.1.mono e, h.1.2.2⟩, MER.mono h.2⟩
  | [], y :: ys, h => by simp only [MER] at h
  | x :: xs, [], h => by simp only [MER] at h
theorem at?_mono {ρ e : Ren} {r p} (h : ρ.at? r = some p) : Ren.at? (ρ ++ e) r = some p := Ren.le_append ρ e r p h
theorem OR.mono {ρ e : Ren} {o x : Obj} (h : OR ρ o x) : OR (ρ ++ e) o x := by
  cases o with
  | map es cl => simp only [OR] at *; obtain ⟨es', h1, h2⟩ := h; exact ⟨es', h1.mono, h2⟩
  | mapIter m a b c => cases m <;> simp only [OR] at * <;> first | exact h | (obtain ⟨k, h1, h2⟩ := h; exact ⟨k, at?_mono h1, h2⟩)
  | stringIter s p => simpa only [OR] using h
  | deferred d => cases d with
    | none => simpa only [OR] using h
    | some l => cases l <;> simp only [OR] at * <;> exact h
  | _ => simp only [OR] at h
theorem SBok.mono {ρ e : Ren} {p : Nat × Nat} {o : SB} (h : SBok ρ w p o) : SBok (ρ ++ e) w p o := by
  cases o with
  | cells c room wr => obtain ⟨cs, h1, h2⟩ := h; exact ⟨cs, h1.mono e, h2⟩
  | flat c room wr => exact h
  | obj o => obtain ⟨h0, x, h1, h2⟩ := h; exact ⟨h0, x, h1, h2.mono⟩
  | dead => trivial
theorem SBok.same {p : Nat × Nat} {o : SB} (hb : w'.heap[p.1]? = w.heap[p.1]?) (h : SBok ρ w p o) : SBok ρ w' p o := by
  cases o with
  | cells c room wr => obtain ⟨cs, h1, h2⟩ := h; exact ⟨cs, h1, by unfold CellsAt at *; rw [hb]; exact h2⟩
  | flat c room wr => obtain ⟨h1, h2⟩ := h; exact ⟨h1, by unfold CellsAt at *; rw [hb]; exact h2⟩
  | obj o => obtain ⟨h0, x, h1, h2⟩ := h; exact ⟨h0, x, by rw [hb]; exact h1, h2⟩
  | dead => trivial

theorem getElem?_set' {α : Type} {l : List α} {r s : Nat} {x y : α} (h : (l.set r x)[s]? = some y) : (s = r ∧ y = x) ∨ (s ≠ r ∧ l[s]? = some y) := by
  rw [List.getElem?_set] at h
  split at h
  · rename_i hrs; subst hrs
    split at h
    · simp at h; exact .inl ⟨rfl, h.symm⟩
    · simp at h
  · rename_i hrs; exact .inr ⟨fun e => hrs e.symm, h⟩

/-- Only the block behind region 'r' has turned. -/
theorem Sat.update (h : Sat X w ρ H) {r : Nat} {p : Nat × Nat} {o o' : SB} (hp : ρ[r]? = some p) (ho : H[r]? = some o) (hw : o.wr = true)
    (hl : o.live = true) (hos : w'.os = w.os) (htape : w'.tape = w.tape) (hout : w'.output = w.output) (hsz : w'.heap.size = w.heap.size)
    (hb : ∀ k, k ≠ p.1 → w'.heap[k]? = w.heap[k]?) (hok : SBok ρ w' p o') : Sat X w' ρ (H.set r o') where
  os := hos.trans h.os
  tape := htape.trans h.tape
  output := hout.trans h.output
  size := by rw [hsz]; exact h.size
  old := fun b h1 h2 => by
    rw [hb b (fun e => by subst e; rcases h.own r p o hp ho hw with h3 | h3 <;> first | exact h2 h3 | omega)]
    exact h.old b h1 h2
  len := by simp [h.len]
  exp := by have := h.exp; simp; omega
  ok := fun s q y hq hy => by
    rcases getElem?_set' hy with ⟨rfl, rfl⟩ | ⟨hs, hy⟩
    · rw [hp] at hq; cases hq; exact hok
    · by_cases hd : y.live = true
      · exact SBok.same (hb _ (fun e => hs (h.dist r s p q o y hp hq ho hy hl hd hw e.symm).symm)) (h.ok s q y hq hy)
      · cases y <;> simp [SB.live] at hd; trivial
  dist := fun s s' q q' y y' hq hq' hy hy' l l' hwr e => by
    rcases getElem?_set' hy with ⟨hs, hy1⟩ | ⟨hs, hy1⟩
    · subst hs; rw [hp] at hq; cases hq
      rcases getElem?_set' hy' with ⟨hs', hy1'⟩ | ⟨hs', hy1'⟩
      · exact hs'.symm
      · exact h.dist _ _ p q' o y' hp hq' ho hy1' hl l' hw e
    · rcases getElem?_set' hy' with ⟨hs', hy1'⟩ | ⟨hs', hy1'⟩
      · subst hs'; rw [hp] at hq'; cases hq'
        exact (h.dist _ _ p q o y hp hq ho hy1 hl l hw e.symm).symm
      · exact h.dist s s' q q' y y' hq hq' hy1 hy1' l l' hwr e
  own := fun s q y hq hy hwr => by
    rcases getElem?_set' hy with ⟨rfl, rfl⟩ | ⟨hs, hy⟩
    · rw [hp] at hq; cases hq; exact h.own _ p o hp ho hw
    · exact h.own s q y hq hy hwr
  lt := fun s q y hq hy hlv => by
    rw [hsz]
    rcases getElem?_set' hy with ⟨rfl, rfl⟩ | ⟨hs, hy⟩
    · rw [hp] at hq; cases hq; exact h.lt _ p o hp ho hl
    · exact h.lt s q y hq hy hlv
  rdo := fun s q y hq hy hlv => by
    rcases getElem?_set' hy with ⟨rfl, rfl⟩ | ⟨hs, hy⟩
    · rw [hp] at hq; cases hq; exact h.rdo _ p o hp ho hl
    · exact h.rdo s q y hq hy hlv
  glob := fun g c hg => by
    obtain ⟨h1, h2⟩ := h.glob g c hg
    refine ⟨h1, ?_⟩
    unfold CellsAt at *
    rw [hb g (fun e => h.globD r p o g c hp ho hw hg e.symm)]
    exact h2
  globD := fun s q y g c hq hy hwr hg => by
    rcases getElem?_set' hy with ⟨rfl, rfl⟩ | ⟨hs, hy⟩
    · rw [hp] at hq; cases hq; exact h.globD _ p o g c hp ho hw hg
    · exact h.globD s q y g c hq hy hwr hg

theorem getElem?_snoc {α : Type} {l : List α} {x y : α} {s : Nat} (h : (l ++ [x])[s]? = some y) : (s = l.length ∧ y = x) ∨ (s < l.length ∧ l[s]? = some y) := by
  rcases Nat.lt_trichotomy s l.length with hs | hs | hs
  · exact .inr ⟨hs, by rwa [List.getElem?_append_left hs] at h⟩
  · subst hs; simp at h; exact .inl ⟨rfl, h.symm⟩
  · rw [List.getElem?_eq_none (by simp; omega)] at h; cases h

theorem GL_lt (h : Sat X w ρ H) {g c} (hg : (g, c) ∈ X.GL) : g < w.heap.size := by
  obtain ⟨_, pre, rest, e, fr, h1, _⟩ := h.glob g c hg
  exact (Array.getElem?_eq_some_iff.1 h1).1

/-- One new block, all else as it was. -/
theorem Sat.extend (h : Sat X w ρ H) {b : Nat} {o : SB} (hos : w'.os = w.os) (htape : w'.tape = w.tape) (hout : w'.output = w.output)
    (hsz : w.heap.size ≤ w'.heap.size) (hb : ∀ k, k < w.heap.size → w'.heap[k]? = w.heap[k]?) (h1 : w.heap.size ≤ b) (h2 : b < w'.heap.size) (s : Nat) (hok : SBok (ρ ++ [(b, s)]) w' (b, s) o) : Sat X w' (ρ ++ [(b, s)]) (H ++ [o]) where
  os := hos.trans h.os
  tape := htape.trans h.tape
  output := hout.trans h.output
  size := Nat.le_trans h.size hsz
  old := fun k k1 k2 => by rw [hb k (Nat.lt_of_lt_of_le k1 h.size)]; exact h.old k k1 k2
  len := by simp [h.len]
  exp := by have := h.exp; simp; omega
  ok := fun r p y hp hy => by
    rcases getElem?_snoc hp with ⟨rfl, rfl⟩ | ⟨hr, hp⟩
    · rcases getElem?_snoc hy with ⟨_, rfl⟩ | ⟨hr, _⟩
      · exact hok
      · rw [h.len] at hr; omega
    · rcases getElem?_snoc hy with ⟨e, _⟩ | ⟨_, hy⟩
      · rw [h.len] at hr; omega
      · by_cases hd : y.live = true
        · exact SBok.mono (SBok.same (hb _ (h.lt r p y hp hy hd)) (h.ok r p y hp hy))
        · cases y <;> simp [SB.live] at hd; trivial
  dist := fun r r' p p' y y' hp hp' hy hy' l l' hwr e => by
    rcases getElem?_snoc hp with ⟨rfl, rfl⟩ | ⟨hr, hp⟩
    · rcases getElem?_snoc hp' with ⟨rfl, rfl⟩ | ⟨hr', hp'⟩
      · rfl
      · rcases getElem?_snoc hy' with ⟨e', _⟩ | ⟨_, hy'⟩
        · rw [h.len] at hr'; omega
        · have := h.lt r' p' y' hp' hy' l'; simp only at e; omega
    · rcases getElem?_snoc hy with ⟨e', _⟩ | ⟨_, hy⟩
      · rw [h.len] at hr; omega
      · rcases getElem?_snoc hp' with ⟨rfl, rfl⟩ | ⟨hr', hp'⟩
        · have := h.lt r p y hp hy l; simp only at e; omega
        · rcases getElem?_snoc hy' with ⟨e', _⟩ | ⟨_, hy'⟩
          · rw [h.len] at hr'; omega
          · exact h.dist r r' p p' y y' hp hp' hy hy' l l' hwr e
  own := fun r p y hp hy hwr => by
    rcases getElem?_snoc hp with ⟨rfl, rfl⟩ | ⟨hr, hp⟩
    · exact .inr (Nat.le_trans h.size h1)
    · rcases getElem?_snoc hy with ⟨e, _⟩ | ⟨_, hy⟩
      · rw [h.len] at hr; omega
      · exact h.own r p y hp hy hwr
  lt := fun r p y hp hy hl => by
    rcases getElem?_snoc hp with ⟨rfl, rfl⟩ | ⟨hr, hp⟩
    · exact h2
    · rcases getElem?_snoc hy with ⟨e, _⟩ | ⟨_, hy⟩
      · rw [h.len] at hr; omega
      · exact Nat.lt_of_lt_of_le (h.lt r p y hp hy hl) hsz
  rdo := fun r p y hp hy hl => by
    rcases getElem?_snoc hp with ⟨rfl, rfl⟩ | ⟨hr, hp⟩
    · exact .inr (.inr (Nat.le_trans h.size h1))
    · rcases getElem?_snoc hy with ⟨e, _⟩ | ⟨_, hy⟩
      · rw [h.len] at hr; omega
      · exact h.rdo r p y hp hy hl
  glob := fun g c hg => by
    obtain ⟨k1, k2⟩ := h.glob g c hg
    refine ⟨k1, ?_⟩
    have hlt := GL_lt h hg
    unfold CellsAt at *
    rw [hb g hlt]; exact k2
  globD := fun r p y g c hp hy hwr hg => by
    rcases getElem?_snoc hp with ⟨rfl, rfl⟩ | ⟨hr, hp⟩
    · have := GL_lt h hg; simp only; omega
    · rcases getElem?_snoc hy with ⟨e, _⟩ | ⟨_, hy⟩
      · rw [h.len] at hr; omega
      · exact h.globD r p y g c hp hy hwr hg

/-- A world that parts in draws alone, or in new blocks that nobody knows. -/
theorem Sat.world (h : Sat X w ρ H) (hos : w'.os = w.os) (htape : w'.tape = w.tape) (hout : w'.output = w.output)
    (hsz : w.heap.size ≤ w'.heap.size) (hb : ∀ k, k < w.heap.size → w'.heap[k]? = w.heap[k]?) : Sat X w' ρ H where
  os := hos.trans h.os
  tape := htape.trans h.tape
  output := hout.trans h.output
  size := Nat.le_trans h.size hsz
  old := fun k k1 k2 => by rw [hb k (Nat.lt_of_lt_of_le k1 h.size)]; exact h.old k k1 k2
  len := h.len
  exp := h.exp
  ok := fun r p y hp hy => by
    by_cases hd : y.live = true
    · exact SBok.same (hb _ (h.lt r p y hp hy hd)) (h.ok r p y hp hy)
    · cases y <;> simp [SB.live] at hd; trivial
  dist := h.dist
  own := h.own
  lt := fun r p y hp hy hl => Nat.lt_of_lt_of_le (h.lt r p y hp hy hl) hsz
  rdo := h.rdo
  glob := fun g c hg => by
    obtain ⟨k1, k2⟩ := h.glob g c hg
    refine ⟨k1, ?_⟩
    have hlt := GL_lt h hg
    unfold CellsAt at *
    rw [hb g hlt]; exact k2
  globD := h.globD
theorem Sat.drew (h : Sat X w ρ H) : Sat X w.drew ρ H := h.world rfl rfl rfl (Nat.le_refl _) fun _ _ => rfl
theorem Sat.drewN (h : Sat X w ρ H) (n : Nat) : Sat X (w.drewN n) ρ H := h.world rfl rfl rfl (Nat.le_refl _) fun _ _ => rfl
/-- Region 'r' is forgotten. -/
theorem Sat.kill (h : Sat X w ρ H) (r : Nat) : Sat X w ρ (H.set r .dead) where
  os := h.os
  tape := h.tape
  output := h.output
  size := h.size
  old := h.old
  len := by simp [h.len]
  exp := by have := h.exp; simp; omega
  ok := fun s q y hq hy => by
    rcases getElem?_set' hy with ⟨rfl, rfl⟩ | ⟨hs, hy⟩
    · trivial
    · exact h.ok s q y hq hy
  dist := fun s s' q q' y y' hq hq' hy hy' l l' hwr e => by
    rcases getElem?_set' hy with ⟨rfl, rfl⟩ | ⟨hs, hy⟩
    · simp [SB.live] at l
    · rcases getElem?_set' hy' with ⟨rfl, rfl⟩ | ⟨hs', hy'⟩
      · simp [SB.live] at l'
      · exact h.dist s s' q q' y y' hq hq' hy hy' l l' hwr e
  own := fun s q y hq hy hwr => by
    rcases getElem?_set' hy with ⟨rfl, rfl⟩ | ⟨hs, hy⟩
    · simp [SB.wr] at hwr
    · exact h.own s q y hq hy hwr
  lt := fun s q y hq hy hl => by
    rcases getElem?_set' hy with ⟨rfl, rfl⟩ | ⟨hs, hy⟩
    · simp [SB.live] at hl
    · exact h.lt s q y hq hy hl
  rdo := fun s q y hq hy hl => by
    rcases getElem?_set' hy with ⟨rfl, rfl⟩ | ⟨hs, hy⟩
    · simp [SB.live] at hl
    · exact h.rdo s q y hq hy hl
  glob := h.glob
  globD := fun s q y g c hq hy hwr hg => by
    rcases getElem?_set' hy with ⟨rfl, rfl⟩ | ⟨hs, hy⟩
    · simp [SB.wr] at hwr
    · exact h.globD s q y g c hq hy hwr hg

/-- A new block of cells. -/
theorem Sat.alloc (h : Sat X w ρ H) {c cs : List Value} (e : TypeId) (hv : VRl ρ c cs) :
    Sat X (w.alloc (.cells cs.toArray e)) (ρ ++ [(w.heap.size, 0)]) (H ++ [.cells c c.length true]) := by
  refine h.extend (w' := w.alloc (.cells cs.toArray e)) (b := w.heap.size) (o := .cells c c.length true) rfl rfl rfl (by simp) (fun k hk => heap_alloc_old w _ hk) (Nat.le_refl _) (by simp) 0 ⟨cs, hv.mono _, [], [], e, (0, 0), ?_, rfl, ?_, ?_⟩
  · simpa using heap_alloc_new w _
  · simp [hv.length]
  · intro _ i _ _; simp
theorem Sat.allocFlat (h : Sat X w ρ H) {cs : List Value} (e : TypeId) (hv : leafL cs = true) :
    Sat X (w.alloc (.cells cs.toArray e)) (ρ ++ [(w.heap.size, 0)]) (H ++ [.flat cs cs.length true]) := by
  refine h.extend (w' := w.alloc (.cells cs.toArray e)) (b := w.heap.size) (o := .flat cs cs.length true) rfl rfl rfl (by simp) (fun k hk => heap_alloc_old w _ hk) (Nat.le_refl _) (by simp) 0 ⟨hv, [], [], e, (0, 0), ?_, rfl, ?_, ?_⟩
  · simpa using heap_alloc_new w _
  · simp
  · intro _ i _ _; simp
end Go.SX
