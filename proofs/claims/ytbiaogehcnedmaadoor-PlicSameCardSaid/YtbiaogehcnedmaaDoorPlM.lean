/-
  Scripts of acts by a plic, as a row reads them; the table that the row lists.
-/
import Derived.Test.YtbiaogehcnedmaaDoorPlL
import Derived.Test.YtbiaogehcnedmaaDoorRows
import Derived.Deep.DeepHandedRow
set_option linter.unusedVariables false
set_option linter.unusedSimpArgs false
set_option maxRecDepth 100000
namespace Go.Proofs.YtbiaogehcnedmaaDoor
open Go Go.SX Go.ChangeShapes Go.WideShapes Go.ChangeAt Go.RowKit
theorem plOwn : ownKnob Tryd.prog.godebug = none := by kernel_rfl
theorem plTab : Tryd.prog.globalNamed "math/bits.deBruijn64tab" = some 1 := by kernel_rfl
theorem plTabType : (Tryd.prog.globals[1]?).map (·.type) = some 77 := by kernel_rfl
theorem plCells : Tryd.prog.cellsOf 77 = 64 := by kernel_rfl
theorem plCell1 : Tryd.prog.cellsOf 5 = 1 := by kernel_rfl
theorem fit_i {k : IntKind} {v : Value} (h : fit1 (.i k) v) : ∃ n, v = .int k n ∧ (Lit.int k n).wf = true := by
  cases v <;> simp only [fit1] at h
  obtain ⟨rfl, h⟩ := h
  exact ⟨_, rfl, h⟩
theorem fit_b {v : Value} (h : fit1 .b v) : ∃ b, v = .bool b := by
  cases v <;> simp only [fit1] at h
  exact ⟨_, rfl⟩
theorem fit_ap {x : List Value} (h : FitL [.i .i64, .i .u64, .i .i64, .i .u64, .i .i64, .b] x) : ∃ a : Ap, a.ok ∧ x = a.c := by
  have hl := h.length
  match x, hl with
  | [v0, v1, v2, v3, v4, v5], _ =>
    obtain ⟨h0, h1, h2, h3, h4, h5, -⟩ := h
    obtain ⟨d, rfl, -⟩ := fit_i h0
    obtain ⟨o, rfl, k1⟩ := fit_i h1
    obtain ⟨n, rfl, -⟩ := fit_i h2
    obtain ⟨v, rfl, k3⟩ := fit_i h3
    obtain ⟨s, rfl, -⟩ := fit_i h4
    obtain ⟨u, rfl⟩ := fit_b h5
    replace k1 := wf_u64 k1
    replace k3 := wf_u64 k3
    obtain ⟨o, rfl⟩ := Int.eq_ofNat_of_zero_le k1.1
    obtain ⟨v, rfl⟩ := Int.eq_ofNat_of_zero_le k3.1
    have q1 : o < 2 ^ 64 := by omega
    have q3 : v < 2 ^ 64 := by omega
    exact ⟨⟨d, o, n, v, s, u⟩, ⟨q1, q3⟩, rfl⟩
theorem flatten_aps (l : List Ap) : (l.map Ap.c).flatten = aps l := by
  induction l with
  | nil => rfl
  | cons a l ih => simp [aps, ih]
theorem aps_leaf (l : List Ap) : leafL (aps l) = true := by
  induction l with
  | nil => rfl
  | cons a l ih => simp [aps, Ap.c, leafL, leaf, ih]
/-- A script, opened. -/
theorem open_aps {H : Type} {enc : TypeId × Value → H} {W : World} {base : Nat} {v : Value} {d : DataW H} {p : List MemPlace} (hv : Value.okWide Tryd.prog W .any base 37 v) (h : DataW.Trod enc Tryd.prog W 0 (fun _ => true) true 37 v d p) :
    ∃ (l : List Ap) (nil : Bool) (b off cap : Nat), (∀ a ∈ l, a.ok) ∧ (nil = true → l.length = 0 ∧ cap = 0) ∧ v = (if nil = true then .slice none 0 0 else .slice (some ⟨b, off, none⟩) l.length cap) ∧ SBok [(b, off)] W (b, off) (apR l) ∧ ((apR l).live = true → b < W.heap.size) := by
  obtain ⟨hc, hspot⟩ := okSlice Tryd.underlying37 hv
  obtain ⟨fuel, h0⟩ := h
  rw [hc] at h0
  obtain ⟨nil, b, off, cap, L, hnil, hcs, hfit, hat, hle, hcap⟩ := open_flat (n := 9) (ks := [.i .i64, .i .u64, .i .i64, .i .u64, .i .i64, .b]) Tryd.underlying37 (by kernel_rfl) (by kernel_rfl) (by simp) hspot h0
  obtain ⟨l, rfl, hl⟩ := list_of fun x hx => fit_ap (hfit x hx)
  simp only [List.length_map] at hnil hcs hle
  rw [flatten_aps] at hat
  simp only [List.cons.injEq, and_true] at hcs
  refine ⟨l, nil, b, off, cap, hl, hnil, hcs, ?_, ?_⟩
  · cases l with
    | nil => trivial
    | cons a l => exact ⟨aps_leaf _, (hat (by simp)).1⟩
  · intro hlv
    cases l with
    | nil => cases hlv
    | cons a l => exact (hat (by simp)).2
theorem apR_wr (l : List Ap) : (apR l).wr = false := by cases l <;> rfl
theorem SBok_any {ρ ρ' : Ren} {W : World} {p : Nat × Nat} {l : List Ap} (h : SBok ρ W p (apR l)) : SBok ρ' W p (apR l) := by cases l <;> exact h
def GLd : List (Nat × List Value) := [(1, tzT)]
theorem GLd_at : lookG GLd (GB + 1) = some (.flat tzT 64 false) := by
  unfold GLd
  simp only [lookG, if_true]
  rfl
theorem GLd_met {W : World} (tab : Lib.TabIs Tryd.prog W "math/bits.deBruijn64tab" .u8 (deBruijn.map fun n : Nat => (n : Int))) : ∀ g c, (g, c) ∈ GLd → leafL c = true ∧ CellsAt W (g, 0) c c.length false := by
  intro g c hg
  simp only [GLd, List.mem_singleton, Prod.mk.injEq] at hg
  obtain ⟨rfl, rfl⟩ := hg
  refine ⟨by decide, cellsAt_of ?_ (by decide)⟩
  intro i v hv
  have hi : i < 64 := (List.getElem?_eq_some_iff.1 hv).1
  have := tab.cell plTab i hi
  rw [Nat.zero_add, this]
  simp only [tzT, List.getElem?_map] at hv
  cases hd : deBruijn[i]? with
  | none => rw [hd] at hv; cases hv
  | some n =>
    rw [hd] at hv
    simp only [Option.map_some, Option.some.injEq] at hv
    rw [← hv]
    simp [List.getD_eq_getElem?_getD, List.getElem?_map, hd]
theorem plTable {W : World} {d : DataW Unit} (hd : d = Lib.tabData .u8 (deBruijn.map fun n : Nat => (n : Int))) (h : laidMetH Tryd.prog [("math/bits.deBruijn64tab", d)] W) : Lib.TabIs Tryd.prog W "math/bits.deBruijn64tab" .u8 (deBruijn.map fun n : Nat => (n : Int)) := by
  subst hd
  exact Lib.tabIs_of_head (rest := []) plTab plTabType (by kernel_rfl) Tryd.underlying5 plCell1 plCells h
/-- A world for the witness: the settled one, the table holding what its initialiser lays. -/
noncomputable def plWorld (os : Os) : World :=
  { World.holding Tryd.prog os ⟨#[], #[], []⟩ with heap := (World.holding Tryd.prog os ⟨#[], #[], []⟩).heap.modify 1 fun
      | .cells _ t frozen => .cells tzT.toArray t frozen
      | o => o }
end Go.Proofs.YtbiaogehcnedmaaDoor
