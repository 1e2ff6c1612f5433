/-
  Contracts whose heaps are put in order at the end; slices of numbers, nil or not, in one.
-/
import Derived.Test.YtbiaogehcnedmaaDoorSxP
set_option linter.unusedVariables false
set_option linter.unusedSimpArgs false
namespace Go.SX
open Go
/-- A value and a heap, their regions numbered anew. -/
def RelV (n : Nat) (v : Value) (H : List SB) (R : Value → List SB → Prop) : Prop :=
  ∃ is v' H', is.take n = List.range n ∧ is.Nodup ∧ (∀ i ∈ is, i < BAD) ∧ selH (sel is) H is H' ∧ v = rid (sel is) v' ∧ R v' H'
section
variable {X : Cx} {N : Nat} {P : Program} {ρ : Ren} {H : List SB} {t : Env} {a : Act} {w w' : World}
theorem spec_sel {GL : List (Nat × List Value)} {f : FuncId} {n : Nat} {vs : List Value} {R R' : Value → List SB → Prop} (h : Spec P GL f n vs H R) (hr : ∀ v H', R v H' → RelV n v H' R') : Spec P GL f n vs H R' := by
  intro w0 D E w ρ xs hw hv
  refine Calls.mono (h w0 D E w ρ xs hw hv) ?_
  rintro e w' ⟨v, x, ρ', H', rfl, hx, hw', hρ, hR⟩
  obtain ⟨is, v', H'', h1, h2, h3, h4, rfl, h6⟩ := hr v H' hR
  obtain ⟨k1, k2⟩ := Sat.sel hw' h1 h2 h3 h4
  exact ⟨v', x, _, H'', rfl, VR.back (sel_le h3) _ _ hx, k1, k2.trans hρ, h6⟩
theorem spec_mono {GL : List (Nat × List Value)} {f : FuncId} {n : Nat} {vs : List Value} {R R' : Value → List SB → Prop} (h : Spec P GL f n vs H R) (hr : ∀ v H', R v H' → R' v H') : Spec P GL f n vs H R' := by
  intro w0 D E w ρ xs hw hv
  refine Calls.mono (h w0 D E w ρ xs hw hv) ?_
  rintro e w' ⟨v, x, ρ', H', rfl, hx, hw', hρ, hR⟩
  exact ⟨v, x, ρ', H', rfl, hx, hw', hρ, hr _ _ hR⟩
/-- Nothing to turn. -/
theorem relV_id {n : Nat} {v : Value} {R : Value → List SB → Prop} (hn : n ≤ H.length) (hB : H.length < BAD) (hv : ∀ θ : Nat → Nat, (∀ r, r < H.length → θ r = r) → rid θ v = v ∧ H.map (ridB θ) = H) (h : R v H) : RelV n v H R := by
  have hs : ∀ r, r < H.length → sel (List.range H.length) r = r := by
    intro r hr
    unfold sel
    rw [if_neg (by unfold GB; unfold BAD at hB; omega), if_neg (by omega)]
    simp [hr]
  obtain ⟨h1, h2⟩ := hv _ hs
  have key : ∀ (k : Nat) (os : List SB), (∀ j o, os[j]? = some o → H[k + j]? = some (ridB (sel (List.range H.length)) o)) → selH (sel (List.range H.length)) H ((List.range os.length).map (k + ·)) os := by
    intro k os
    induction os generalizing k with
    | nil => intro _; simp [selH]
    | cons o os ih =>
      intro hh
      rw [List.length_cons, List.range_succ_eq_map]
      simp only [List.map_cons, List.map_map, Nat.add_zero, selH]
      refine ⟨.inr (by simpa using hh 0 o rfl), ?_⟩
      have := ih (k + 1) (fun j o' ho' => by rw [Nat.add_assoc, Nat.add_comm 1 j]; exact hh (j + 1) o' (by simpa using ho'))
      have e : (List.range os.length).map ((k + ·) ∘ Nat.succ) = (List.range os.length).map (k + 1 + ·) := by
        apply List.map_congr_left; intro x _; simp; omega
      rw [e]; exact this
  refine ⟨List.range H.length, v, H, by rw [List.take_range]; congr 1; omega, List.nodup_range, fun i hi => by simp at hi; omega, ?_, h1.symm, h⟩
  have := key 0 H (fun j o ho => by
    have hh : (H.map (ridB (sel (List.range H.length))))[j]? = some o := by rw [h2]; exact ho
    rw [Nat.zero_add, ho]
    rw [List.getElem?_map, ho] at hh
    simp only [Option.map_some, Option.some.injEq] at hh
    rw [hh])
  simpa using this
end

/-! ### A region without addresses is a region that may hold some -/
def cell1 : SB → SB
  | .flat c m b => .cells c m b
  | o => o
def cellsA : List Nat → List SB → List SB
  | [], H => H
  | r :: rs, H => cellsA rs (match H[r]? with
    | some o => H.set r (cell1 o)
    | none => H)
theorem cell1_live (o : SB) : (cell1 o).live = o.live := by cases o <;> rfl
theorem cell1_wr (o : SB) : (cell1 o).wr = o.wr := by cases o <;> rfl
theorem cell1_ok {ρ : Ren} {w : World} {p : Nat × Nat} {o : SB} (h : SBok ρ w p o) : SBok ρ w p (cell1 o) := by
  cases o <;> first | exact h | (obtain ⟨h1, h2⟩ := h; exact ⟨_, VRl.leaf _ h1, h2⟩)
theorem Sat.cells1 {X : Cx} {w : World} {ρ : Ren} {H : List SB} (h : Sat X w ρ H) {r : Nat} {o : SB} (ho : H[r]? = some o) : Sat X w ρ (H.set r (cell1 o)) := by
  have key : ∀ {s : Nat} {y : SB}, (H.set r (cell1 o))[s]? = some y → ∃ z, H[s]? = some z ∧ (y = z ∨ y = cell1 z) := by
    intro s y hy
    rcases getElem?_set' hy with ⟨rfl, rfl⟩ | ⟨_, hy⟩
    · exact ⟨o, ho, .inr rfl⟩
    · exact ⟨y, hy, .inl rfl⟩
  have lv : ∀ {y z : SB}, (y = z ∨ y = cell1 z) → y.live = z.live ∧ y.wr = z.wr := by
    rintro y z (rfl | rfl)
    · exact ⟨rfl, rfl⟩
    · exact ⟨cell1_live z, cell1_wr z⟩
  exact {
    os := h.os, tape := h.tape, output := h.output, size := h.size, old := h.old, glob := h.glob
    len := by simp [h.len]
    exp := by have := h.exp; simp; omega
    ok := fun s p y hp hy => by
      obtain ⟨z, hz, rfl | rfl⟩ := key hy
      · exact h.ok s p _ hp hz
      · exact cell1_ok (h.ok s p _ hp hz)
    dist := fun s s' p p' y y' hp hp' hy hy' l l' hw e => by
      obtain ⟨z, hz, k⟩ := key hy
      obtain ⟨z', hz', k'⟩ := key hy'
      rw [(lv k).1] at l; rw [(lv k').1] at l'; rw [(lv k).2] at hw
      exact h.dist s s' p p' z z' hp hp' hz hz' l l' hw e
    own := fun s p y hp hy hw => by
      obtain ⟨z, hz, k⟩ := key hy
      rw [(lv k).2] at hw
      exact h.own s p z hp hz hw
    lt := fun s p y hp hy l => by
      obtain ⟨z, hz, k⟩ := key hy
      rw [(lv k).1] at l
      exact h.lt s p z hp hz l
    rdo := fun s p y hp hy l => by
      obtain ⟨z, hz, k⟩ := key hy
      rw [(lv k).1] at l
      exact h.rdo s p z hp hz l
    globD := fun s p y g c hp hy hw hg => by
      obtain ⟨z, hz, k⟩ := key hy
      rw [(lv k).2] at hw
      exact h.globD s p z g c hp hz hw hg }
theorem Sat.cellsA {X : Cx} {w : World} {ρ : Ren} : ∀ (rs : List Nat) {H : List SB}, Sat X w ρ H → Sat X w ρ (SX.cellsA rs H)
  | [], _, h => h
  | r :: rs, H, h => by
    simp only [SX.cellsA]
    cases ho : H[r]? with
    | none => exact Sat.cellsA rs h
    | some o => exact Sat.cellsA rs (h.cells1 ho)
theorem spec_cells {P : Program} {H : List SB} {GL : List (Nat × List Value)} {f : FuncId} {n : Nat} {vs : List Value} {R R' : Value → List SB → Prop} (rs : List Nat) (h : Spec P GL f n vs H R) (hr : ∀ v H', R v H' → R' v (cellsA rs H')) : Spec P GL f n vs H R' := by
  intro w0 D E w ρ xs hw hv
  refine Calls.mono (h w0 D E w ρ xs hw hv) ?_
  rintro e w' ⟨v, x, ρ', H', rfl, hx, hw', hρ, hR⟩
  exact ⟨v, x, ρ', _, rfl, hx, hw'.cellsA rs, hρ, hr _ _ hR⟩

/-! ### Slices, nil or not -/
/-- A slice value: nil, or n elements from cell 'off' of region 'k' on. -/
def sl (nil : Bool) (k off n cap : Nat) : Value := if nil then .slice none 0 0 else .slice (some ⟨k, off, none⟩) n cap
/-- Its region: none, or the cells. -/
def fb (nil : Bool) (c : List Value) (room : Nat) : SB := if nil then .dead else .flat c room true
theorem rid_sl (θ : Nat → Nat) (nil : Bool) (k off n cap : Nat) : rid θ (sl nil k off n cap) = sl nil (θ k) off n cap := by cases nil <;> simp [sl, rid]
theorem ridB_fb (θ : Nat → Nat) (nil : Bool) (c : List Value) (room : Nat) : ridB θ (fb nil c room) = fb nil c room := by cases nil <;> rfl
theorem kn_sl (nil : Bool) (k off n cap : Nat) : known (sl nil k off n cap) = true := by cases nil <;> rfl
theorem ce_sl (nil : Bool) (k off n cap : Nat) : cl (sl nil k off n cap) = [sl nil k off n cap] := by cases nil <;> rfl
theorem oc_sl (nil : Bool) (k off n cap : Nat) : (sl nil k off n cap).oneCell' = true := by cases nil <;> rfl
theorem sl_t (k off n cap : Nat) : sl true k off n cap = .slice none 0 0 := rfl
theorem sl_f (k off n cap : Nat) : sl false k off n cap = .slice (some ⟨k, off, none⟩) n cap := rfl
theorem fb_t (c : List Value) (room : Nat) : fb true c room = .dead := rfl
theorem fb_f (c : List Value) (room : Nat) : fb false c room = .flat c room true := rfl
/-- The length of a slice is known, nil or not. -/
theorem asSl_sl {nil : Bool} {k off n cap : Nat} {K : Option Addr → Nat → Nat → Prop} (h : nil = true → n = 0 ∧ cap = 0) : asSl (sl nil k off n cap) K = K (if nil then none else some ⟨k, off, none⟩) n cap := by
  cases nil
  · rfl
  · obtain ⟨rfl, rfl⟩ := h rfl; rfl
/-- Bytes. -/
def bs (l : List Int) : List Value := l.map (Value.int .u8)
theorem bs_length (l : List Int) : (bs l).length = l.length := by simp [bs]
theorem bs_leaf (l : List Int) : leafL (bs l) = true := leafL_iff.2 fun v hv => by obtain ⟨n, _, rfl⟩ := List.mem_map.1 hv; rfl
theorem bs_one (l : List Int) : oneL (bs l) = true := by induction l <;> simp_all [bs, oneL, Value.oneCell']
theorem bs_append (l m : List Int) : bs (l ++ m) = bs l ++ bs m := by simp [bs]
/-- A list of bytes that a slice holds. -/
structure BL where
  nil : Bool
  pre : List Value
  l : List Int
  post : List Value
  cap : Nat
  room : Nat
structure BL.ok (b : BL) : Prop where
  hn : b.nil = true → b.l = [] ∧ b.cap = 0
  hp : leafL b.pre = true
  hq : leafL b.post = true
  hr : b.pre.length + b.cap ≤ b.room
  hc : b.l.length ≤ b.cap
  hb : ∀ x ∈ b.l, 0 ≤ x ∧ x < 256
def BL.v (b : BL) (k : Nat) : Value := sl b.nil k b.pre.length b.l.length b.cap
def BL.o (b : BL) : SB := fb b.nil (b.pre ++ (bs b.l ++ b.post)) b.room
theorem BL.rid (θ : Nat → Nat) (b : BL) (k : Nat) : SX.rid θ (b.v k) = b.v (θ k) := rid_sl ..
theorem BL.ridB (θ : Nat → Nat) (b : BL) : SX.ridB θ b.o = b.o := ridB_fb ..
theorem BL.kn (b : BL) (k : Nat) : known (b.v k) = true := kn_sl ..
theorem BL.ce (b : BL) (k : Nat) : cl (b.v k) = [b.v k] := ce_sl ..
theorem BL.oc (b : BL) (k : Nat) : (b.v k).oneCell' = true := oc_sl ..
theorem BL.sl (b : BL) (h : b.ok) (k : Nat) {K : Option Addr → Nat → Nat → Prop} : asSl (b.v k) K = K (if b.nil then none else some ⟨k, b.pre.length, none⟩) b.l.length b.cap :=
  asSl_sl fun hn => by obtain ⟨h1, h2⟩ := h.hn hn; rw [h1]; exact ⟨rfl, h2⟩
/-- No bytes, and no slice. -/
def BL.none : BL := ⟨true, [], [], [], 0, 0⟩
theorem BL.none_ok : BL.none.ok := ⟨fun _ => ⟨rfl, rfl⟩, rfl, rfl, by simp [BL.none], by simp [BL.none], by simp [BL.none]⟩
end Go.SX
