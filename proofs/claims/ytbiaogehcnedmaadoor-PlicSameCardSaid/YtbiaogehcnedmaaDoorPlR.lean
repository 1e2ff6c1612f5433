/-
  The law PlicSame: every input that can be read is answered true, and all that stood stands as it did: its row and its card. No conditions of its own.
-/
import Derived.Test.YtbiaogehcnedmaaDoorPlM
import Derived.Test.YtbiaogehcnedmaaDoorPlQ
import Derived.Test.YtbiaogehcnedmaaDoorCards
import Derived.Test.YtbiaogehcnedmaaDoorTie
set_option linter.unusedVariables false
set_option linter.unusedSimpArgs false
set_option maxRecDepth 100000
namespace Go.Proofs.YtbiaogehcnedmaaDoor.plicSame
open Go Go.SX Go.ChangeShapes Go.WideShapes Go.ChangeAt Go.RowKit
theorem contract (H : Type) (enc : TypeId × Value → H) (W : World) (base : Nat) (args : Array Value) (ds gs : List (DataW H)) (before : List MemPlace)
    (hval : ∀ (j : Nat) t v, Tryd.f5.params[j]? = some t → args[j]? = some v → Value.okWide Tryd.prog W .any base t v)
    (hW : DataW.Whole enc Tryd.prog Tryd.f5.params.toList Rows.plicSameSpec.vars false W args.toList ds gs before) (hL : laidMetH Tryd.prog Rows.plicSameRow.laid W) :
    Calls Tryd.prog 5 args W fun e W' => ∃ v, e = .returned v ∧ Rows.plicSameSpec.post enc Tryd.prog Tryd.f5 false true false false W args v W' := by
  have hW' := hW
  obtain ⟨p, q, hA0, hV, rfl, hfz, hnd⟩ := hW
  have hA : DataW.TrodAll enc Tryd.prog W 0 (fun _ => true) true Tryd.f5.params.toList args.toList ds p := hA0
  rw [Tryd.params5] at hA hval
  obtain ⟨v0, vs0, d0, ds0, p0, q0, hargs, rfl, rfl, h0, r0⟩ := trodAll_cons hA
  obtain ⟨v1, vs1, d1, ds1, p1, q1, rfl, rfl, rfl, h1, r1⟩ := trodAll_cons r0
  obtain ⟨rfl, rfl, rfl⟩ := trodAll_nil r1
  obtain rfl : args = #[v0, v1] := by cases args; simp_all
  obtain ⟨l, nil, b, off, cap, hl, hnil, hv0, hok, hlt⟩ := open_aps (hval 0 37 v0 rfl rfl) h0
  obtain ⟨m, nil', b', off', cap', hm, hnil', hv1, hok', hlt'⟩ := open_aps (hval 1 37 v1 rfl rfl) h1
  have tab := plTable rfl hL
  have hsat : Sat ⟨W, fun _ => False, fun b => b < W.heap.size, GLd, 2⟩ W [(b, off), (b', off')] [apR l, apR m] := by
    refine sat_start rfl (by simp) ?_ ?_ ?_ (GLd_met tab)
    · intro o ho
      simp at ho
      rcases ho with rfl | rfl <;> exact apR_wr _
    · intro r p o hp ho
      have hr : r < 2 := (List.getElem?_eq_some_iff.1 hp).1
      obtain rfl | rfl : r = 0 ∨ r = 1 := by omega
      all_goals
        simp at hp ho
        subst hp; subst ho
      · exact SBok_any hok
      · exact SBok_any hok'
    · intro r p o hp ho hlv
      have hr : r < 2 := (List.getElem?_eq_some_iff.1 hp).1
      obtain rfl | rfl : r = 0 ∨ r = 1 := by omega
      all_goals
        simp at hp ho
        subst hp; subst ho
      · exact hlt hlv
      · exact hlt' hlv
  have hv : VRl [(b, off), (b', off')] [sl nil 0 0 l.length cap, sl nil' 1 0 m.length cap'] [v0, v1] := by
    subst hv0 hv1
    refine ⟨?_, ?_, trivial⟩
    · cases nil
      · simp only [sl, VR, Bool.false_eq_true, if_false]
        exact ⟨_, ⟨(b, off), rfl, rfl, rfl⟩, rfl⟩
      · simp [sl, VR]
    · cases nil'
      · simp only [sl, VR, Bool.false_eq_true, if_false]
        exact ⟨_, ⟨(b', off'), rfl, rfl, rfl⟩, rfl⟩
      · simp [sl, VR]
  have walk := calls_of_spec (same_spec GLd GLd_at l m hl hm nil nil' cap cap' hnil hnil') hsat hv
  refine walk.mono fun e W' ⟨he, hk, hos, hout⟩ => ?_
  subst he
  exact ⟨_, rfl, law_post hW' rfl (by kernel_rfl) (tb := 4) rfl Tryd.underlying4 rfl hk hos hout⟩
theorem laid_met (os : Os) : laidMet Tryd.prog Rows.plicSameRow.laid ((plWorld os).forCall (fun _ _ => 0) ⟨#[], #[.slice none 0 0, .slice none 0 0], []⟩).memory :=
  laidMet_of_run' 8 (by kernel_rfl) (by kernel_rfl)
theorem reads (os : Os) {H : Type} (enc : TypeId × Value → H) : ∃ places, DataW.whole enc Tryd.prog ((plWorld os).forCall (fun _ _ => 0) ⟨#[], #[.slice none 0 0, .slice none 0 0], []⟩).memory Tryd.f5.params.toList Rows.plicSameSpec.vars false #[Value.slice none 0 0, .slice none 0 0].toList 8 = some ([.nil, .nil], [], places) :=
  ⟨[], by kernel_rfl⟩
theorem lifted (os : Os) (started : os.Started) (H : Type) (enc : TypeId × Value → H) (F : Stop.Interp) :
    ReturnsInHanded {} Tryd.checked os 5 .any ((OpenSpec.ofChange Rows.plicSameSpec).preRow enc Tryd.prog Tryd.f5 Rows.plicSameRow.domain false Rows.plicSameRow.laid) (((OpenSpec.ofChange Rows.plicSameSpec).at F).post enc Tryd.prog Tryd.f5 false true false false) := by
  obtain ⟨places, hx⟩ := reads os enc
  refine returnsInHanded_of_row (C := Tryd.checked) (s := OpenSpec.ofChange Rows.plicSameSpec) plOwn started (by kernel_rfl) Tryd.func5
    (witness_row_at (enc := enc) (C := Tryd.checked) false (plWorld os) #[.slice none 0 0, .slice none 0 0] rfl (by kernel_rfl) (by kernel_rfl) (by kernel_rfl)
      (OpenSpec.preRow_of_cond 8 hx (by kernel_rfl) (fun k hk => by cases hk) (by kernel_rfl) (laid_met os))) ?_
  intro W base args ds gs before hval hW _ _ _ hL _ _
  exact contract H enc W base args ds gs before hval hW hL
theorem said : Rows.PlicSameSaid :=
  OpenClaim.holds_of_cond 5 Tryd.f5 rfl rfl rfl rfl rfl rfl rfl ⟨rfl, rfl, rfl, rfl, rfl⟩ rfl rfl rfl rfl rfl (by kernel_rfl) Tryd.func5 (by kernel_rfl)
    (of_decide_eq_true (by kernel_rfl)) (by unfold Func.isWrapper; first | (rw [if_pos (by decide +kernel)]; kernel_rfl) | (rw [if_neg (by decide +kernel)]; exact ⟨rfl, rfl⟩))
    (fun os started H enc _ F => by rw [OpenClaim.pre_eq_preRow]; exact lifted os started H enc F)
/-- No parameter wants a stand-in; the program's own looks are off: what the card asks. -/
theorem plain (f : FuncId) (fn : Func) (hf : Tryd.pinned.checked.prog.funcNamed "mezzanine/mezzaninelaw05.PlicSame" = some f) (hfn : Tryd.pinned.checked.prog.funcs[f]? = some fn) :
    false = Tryd.pinned.checked.prog.looks [] ∧ ∀ (j : Nat) t, fn.params[j]? = some t → Tryd.pinned.checked.prog.wantsStandIn t = false := by
  obtain rfl : f = 5 := Option.some.inj ((show Tryd.prog.funcNamed "mezzanine/mezzaninelaw05.PlicSame" = some 5 by kernel_rfl).symm.trans hf) |>.symm
  obtain rfl : fn = Tryd.f5 := (Option.some.inj (Tryd.func5.symm.trans hfn)).symm
  refine ⟨by kernel_rfl, fun j t ht => ?_⟩
  have hall : (Tryd.f5.params.toList.all fun t => !Tryd.prog.wantsStandIn t) = true := by kernel_rfl
  have := List.all_eq_true.1 hall t (by simpa using Array.mem_of_getElem? ht)
  exact (by simpa using this : Tryd.prog.wantsStandIn t = false)
/-- The card. -/
theorem card : Rows.PlicSameCardSaid :=
  Claim7.holds_tied_plain_at .later [] _ _ _ _ said (fun _ h => by cases h) (by kernel_rfl) (fun _ h => by cases h) plicSame_row_tie rfl ⟨rfl, rfl⟩ (by kernel_rfl) rfl plain (by kernel_rfl)
#print axioms card
end Go.Proofs.YtbiaogehcnedmaaDoor.plicSame
