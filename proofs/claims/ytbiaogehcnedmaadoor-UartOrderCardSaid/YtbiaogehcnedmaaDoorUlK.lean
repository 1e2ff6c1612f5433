/-
  The law UartOrder: every input that can be read is answered true, and all that stood stands as it did: its row and its card. No conditions of its own.
-/
import Derived.Test.YtbiaogehcnedmaaDoorUlJ
import Derived.Test.YtbiaogehcnedmaaDoorSxS
import Derived.Test.YtbiaogehcnedmaaDoorCards
import Derived.Test.YtbiaogehcnedmaaDoorTie
import Derived.Deep.DeepHandedRow
set_option linter.unusedVariables false
set_option linter.unusedSimpArgs false
set_option maxRecDepth 100000
namespace Go.Proofs.YtbiaogehcnedmaaDoor.uartOrder
open Go Go.SX Go.ChangeShapes Go.WideShapes Go.ChangeAt Go.RowKit
theorem own : ownKnob Tryd.prog.godebug = none := by kernel_rfl
theorem gTab : Tryd.prog.globalNamed "mezzanine/uart.kept" = some 0 := by kernel_rfl
theorem gTabType : (Tryd.prog.globals[0]?).map (·.type) = some 62 := by kernel_rfl
theorem cellsA : Tryd.prog.cellsOf 62 = 10 := by kernel_rfl
theorem cells5 : Tryd.prog.cellsOf 5 = 1 := by kernel_rfl
theorem table {W : World} (h : laidMetH Tryd.prog Rows.uartOrderRow.laid W) : Lib.TabIs Tryd.prog W "mezzanine/uart.kept" .u8 [0, 15, 1, 255, 31, 0, 0, 255, 255, 255] :=
  Lib.tabIs_of_head (rest := []) gTab gTabType (by kernel_rfl) Tryd.underlying5 cells5 cellsA h
theorem fit_ac {x : List Value} (h : FitL [.i .i64, .i .u64, .i .i64, .i .u64] x) : ∃ a : Ac, a.ok ∧ x = a.c := by
  have hl := h.length
  match x, hl with
  | [v0, v1, v2, v3], _ =>
    obtain ⟨h0, h1, h2, h3, -⟩ := h
    cases v0 <;> simp only [fit1] at h0 <;> try (exact h0.elim)
    cases v1 <;> simp only [fit1] at h1 <;> try (exact h1.elim)
    cases v2 <;> simp only [fit1] at h2 <;> try (exact h2.elim)
    cases v3 <;> simp only [fit1] at h3 <;> try (exact h3.elim)
    obtain ⟨rfl, h0⟩ := h0
    obtain ⟨rfl, h1⟩ := h1
    obtain ⟨rfl, h2⟩ := h2
    obtain ⟨rfl, h3⟩ := h3
    exact ⟨⟨_, _, _, _⟩, ⟨wf_u64 h1, wf_u64 h3⟩, rfl⟩
theorem flatten_acs (l : List Ac) : (l.map Ac.c).flatten = acs l := by
  induction l with
  | nil => rfl
  | cons a l ih => simp [acs, ih]
theorem acs_leaf (l : List Ac) : leafL (acs l) = true := by
  induction l with
  | nil => rfl
  | cons a l ih => simp [acs, Ac.c, leafL, leaf, ih]
theorem contract (H : Type) (enc : TypeId × Value → H) (W : World) (base : Nat) (args : Array Value) (ds gs : List (DataW H)) (before : List MemPlace)
    (hval : ∀ (j : Nat) t v, Tryd.f3.params[j]? = some t → args[j]? = some v → Value.okWide Tryd.prog W .any base t v)
    (hW : DataW.Whole enc Tryd.prog Tryd.f3.params.toList Rows.uartOrderSpec.vars false W args.toList ds gs before) (hL : laidMetH Tryd.prog Rows.uartOrderRow.laid W) :
    Calls Tryd.prog 3 args W fun e W' => ∃ v, e = .returned v ∧ Rows.uartOrderSpec.post enc Tryd.prog Tryd.f3 false true false false W args v W' := by
  have hW' := hW
  obtain ⟨p, q, hA0, hV, rfl, hfz, hnd⟩ := hW
  have hA : DataW.TrodAll enc Tryd.prog W 0 (fun _ => true) true Tryd.f3.params.toList args.toList ds p := hA0
  rw [Tryd.params3] at hA hval
  obtain ⟨v0, vs0, d0, ds0, p0, q0, hargs, rfl, rfl, h0, r0⟩ := trodAll_cons hA
  obtain ⟨rfl, rfl, rfl⟩ := trodAll_nil r0
  obtain rfl : args = #[v0] := by cases args; simp_all
  obtain ⟨hc, hspot⟩ := okSlice Tryd.underlying22 (hval 0 22 v0 rfl rfl)
  obtain ⟨fuel, h0⟩ := h0
  rw [hc] at h0
  obtain ⟨nil, b, off, cap, L, hnil, hcs, hfit, hat, hle, hcap⟩ := open_flat (n := 9) (ks := [.i .i64, .i .u64, .i .i64, .i .u64]) Tryd.underlying22 (by kernel_rfl) (by kernel_rfl) (by simp) hspot h0
  obtain ⟨l, rfl, hl⟩ := list_of fun x hx => fit_ac (hfit x hx)
  simp only [List.length_map] at hnil hcs hle
  rw [flatten_acs] at hat
  simp only [List.cons.injEq, and_true] at hcs
  have tab := table hL
  have hsat : Sat ⟨W, fun _ => False, fun b => b < W.heap.size, GLk, 1⟩ W [(b, off)] [acR l] := by
    refine sat_start rfl (by simp) ?_ ?_ ?_ ?_
    · intro o ho
      simp at ho
      subst ho
      cases l <;> rfl
    · intro r p o hp ho
      obtain rfl : r = 0 := by
        have := (List.getElem?_eq_some_iff.1 hp).1
        simpa using this
      simp at hp ho
      subst hp; subst ho
      cases l with
      | nil => trivial
      | cons a l => exact ⟨acs_leaf _, (hat (by simp)).1⟩
    · intro r p o hp ho hlv
      obtain rfl : r = 0 := by
        have := (List.getElem?_eq_some_iff.1 hp).1
        simpa using this
      simp at hp ho
      subst hp; subst ho
      cases l with
      | nil => cases hlv
      | cons a l => exact (hat (by simp)).2
    · intro g c hg
      simp only [GLk, List.mem_singleton, Prod.mk.injEq] at hg
      obtain ⟨rfl, rfl⟩ := hg
      refine ⟨by decide, cellsAt_of ?_ (by simp)⟩
      intro i v hv
      have hi : i < 10 := (List.getElem?_eq_some_iff.1 hv).1
      have := tab.cell gTab i hi
      rw [Nat.zero_add, this]
      have hcase : i = 0 ∨ i = 1 ∨ i = 2 ∨ i = 3 ∨ i = 4 ∨ i = 5 ∨ i = 6 ∨ i = 7 ∨ i = 8 ∨ i = 9 := by omega
      rcases hcase with rfl | rfl | rfl | rfl | rfl | rfl | rfl | rfl | rfl | rfl <;> exact hv
  have hv : VRl [(b, off)] [sl nil 0 0 l.length cap] [v0] := by
    subst hcs
    cases nil
    · simp only [VRl, sl, VR, Bool.false_eq_true, if_false, and_true]
      exact ⟨_, ⟨(b, off), rfl, rfl, rfl⟩, rfl⟩
    · simp [VRl, sl, VR]
  have walk := calls_of_spec (spec_mono (order_spec l hl nil cap (fun h => ⟨List.eq_nil_of_length_eq_zero (hnil h).1, (hnil h).2⟩)) (fun v H h => h.1)) hsat hv
  refine walk.mono fun e W' ⟨he, hk, hos, hout⟩ => ?_
  subst he
  exact ⟨_, rfl, law_post hW' rfl (by kernel_rfl) (tb := 4) rfl Tryd.underlying4 rfl hk hos hout⟩

/-- A world for the witness: the settled one, the table holding what its initialiser lays. -/
noncomputable def laidWorld (os : Os) : World :=
  { World.holding Tryd.prog os ⟨#[], #[], []⟩ with heap := (World.holding Tryd.prog os ⟨#[], #[], []⟩).heap.modify 0 fun
      | .cells _ t frozen => .cells #[.int .u8 0, .int .u8 15, .int .u8 1, .int .u8 255, .int .u8 31, .int .u8 0, .int .u8 0, .int .u8 255, .int .u8 255, .int .u8 255] t frozen
      | o => o }
theorem laid_met (os : Os) : laidMet Tryd.prog Rows.uartOrderRow.laid ((laidWorld os).forCall (fun _ _ => 0) ⟨#[], #[.slice none 0 0], []⟩).memory :=
  laidMet_of_run' 8 (by kernel_rfl) (by kernel_rfl)
theorem reads (os : Os) {H : Type} (enc : TypeId × Value → H) : ∃ places, DataW.whole enc Tryd.prog ((laidWorld os).forCall (fun _ _ => 0) ⟨#[], #[.slice none 0 0], []⟩).memory Tryd.f3.params.toList Rows.uartOrderSpec.vars false #[Value.slice none 0 0].toList 8 = some ([.nil], [], places) :=
  ⟨[], by kernel_rfl⟩
theorem lifted (os : Os) (started : os.Started) (H : Type) (enc : TypeId × Value → H) (F : Stop.Interp) :
    ReturnsInHanded {} Tryd.checked os 3 .any ((OpenSpec.ofChange Rows.uartOrderSpec).preRow enc Tryd.prog Tryd.f3 Rows.uartOrderRow.domain false Rows.uartOrderRow.laid) (((OpenSpec.ofChange Rows.uartOrderSpec).at F).post enc Tryd.prog Tryd.f3 false true false false) := by
  obtain ⟨places, hx⟩ := reads os enc
  refine returnsInHanded_of_row (C := Tryd.checked) (s := OpenSpec.ofChange Rows.uartOrderSpec) own started (by kernel_rfl) Tryd.func3
    (witness_row_at (enc := enc) (C := Tryd.checked) false (laidWorld os) #[.slice none 0 0] rfl (by kernel_rfl) (by kernel_rfl) (by kernel_rfl)
      (OpenSpec.preRow_of_cond 8 hx (by kernel_rfl) (fun k hk => by cases hk) (by kernel_rfl) (laid_met os))) ?_
  intro W base args ds gs before hval hW _ _ _ hL _ _
  exact contract H enc W base args ds gs before hval hW hL
theorem said : Rows.UartOrderSaid :=
  OpenClaim.holds_of_cond 3 Tryd.f3 rfl rfl rfl rfl rfl rfl rfl ⟨rfl, rfl, rfl, rfl, rfl⟩ rfl rfl rfl rfl rfl (by kernel_rfl) Tryd.func3 (by kernel_rfl)
    (of_decide_eq_true (by kernel_rfl)) (by unfold Func.isWrapper; first | (rw [if_pos (by decide +kernel)]; kernel_rfl) | (rw [if_neg (by decide +kernel)]; exact ⟨rfl, rfl⟩))
    (fun os started H enc _ F => by rw [OpenClaim.pre_eq_preRow]; exact lifted os started H enc F)
/-- No parameter wants a stand-in; the program's own looks are off: what the card asks. -/
theorem plain (f : FuncId) (fn : Func) (hf : Tryd.pinned.checked.prog.funcNamed "mezzanine/mezzaninelaw06.UartOrder" = some f) (hfn : Tryd.pinned.checked.prog.funcs[f]? = some fn) :
    false = Tryd.pinned.checked.prog.looks [] ∧ ∀ (j : Nat) t, fn.params[j]? = some t → Tryd.pinned.checked.prog.wantsStandIn t = false := by
  obtain rfl : f = 3 := Option.some.inj ((show Tryd.prog.funcNamed "mezzanine/mezzaninelaw06.UartOrder" = some 3 by kernel_rfl).symm.trans hf) |>.symm
  obtain rfl : fn = Tryd.f3 := (Option.some.inj (Tryd.func3.symm.trans hfn)).symm
  refine ⟨by kernel_rfl, fun j t ht => ?_⟩
  rw [Tryd.params3] at ht
  obtain rfl : t = 22 := by simpa using Array.mem_of_getElem? ht
  exact (show Tryd.prog.wantsStandIn 22 = false by kernel_rfl)
/-- The card. -/
theorem card : Rows.UartOrderCardSaid :=
  Claim7.holds_tied_plain_at .later [] _ _ _ _ said (fun _ h => by cases h) (by kernel_rfl) (fun _ h => by cases h) uartOrder_row_tie rfl ⟨rfl, rfl⟩ (by kernel_rfl) rfl plain (by kernel_rfl)
#print axioms card
end Go.Proofs.YtbiaogehcnedmaaDoor.uartOrder
