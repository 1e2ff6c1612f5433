/-
  All operations together.
-/
import Derived.Test.YtbiaogehcnedmaaDoorSxG
set_option linter.unusedVariables false
set_option linter.unusedSimpArgs false
namespace Go.SX
open Go
section
variable {X : Cx} {N : Nat} {P : Program} {ρ : Ren} {H : List SB} {t : Env} {a : Act}

def isP : I → Bool
  | .st _ _ _ | .box _ _ | .new _ _ | .bsl _ _ _ _ _ | .hard _ _ | .call _ _ _ | .callv _ _ _ => false
  | _ => true
def isH : I → Bool
  | .hard _ _ | .call _ _ _ | .callv _ _ _ => true
  | _ => false
theorem bool3 {a b c : Bool} (h : (a && b && c) = true) : a = true ∧ b = true ∧ c = true := by cases a <;> cases b <;> cases c <;> simp_all

theorem compB_ok {K : Env → Prop} {op : BinOp} {ty yT tt : TypeId} {x y : Operand} {d : Nat} {i : I} {pos af gd} (hc : compB P op ty x y d = some i) (hN : d < N) (hs : Slots N ρ t a)
    (hx : okx x = true) (hy : okx y = true) (h : stepP X.GL H t i K) : PureAt X N P ⟨some d, .binOp op ty x y yT, tt, pos, af, gd⟩ ρ H a K := by
  unfold compB at hc
  split at hc <;> first | (cases hc; done) | (simp only [Option.some.injEq] at hc; subst hc)
  · rename_i hu; exact isnil_ok (ne := false) hu rfl hN hs hx h
  · rename_i hu; exact isnil_ok (ne := true) hu rfl hN hs hx h
  · rename_i hu; exact isnil_ok (ne := false) hu rfl hN hs hx h
  · rename_i hu; exact isnil_ok (ne := true) hu rfl hN hs hx h
  · rename_i hu; exact beq_ok (ne := false) hu hN hs hx hy h
  · rename_i hu; exact beq_ok (ne := true) hu hN hs hx hy h
  · exact bin_ok hN hs hx hy h
  · exact bin_ok hN hs hx hy h

theorem compB_pure {op : BinOp} {ty : TypeId} {x y : Operand} {d : Nat} {i : I} (hc : compB P op ty x y d = some i) : i.dst = some d := by
  unfold compB at hc
  split at hc <;> first | (cases hc; done) | (simp only [Option.some.injEq] at hc; subst hc; rfl)

theorem compB_isP {op : BinOp} {ty : TypeId} {x y : Operand} {d : Nat} {i : I} (hc : compB P op ty x y d = some i) : isP i = true := by
  unfold compB at hc
  split at hc <;> first | (cases hc; done) | (simp only [Option.some.injEq] at hc; subst hc; rfl)
theorem pure_ok {K : Env → Prop} {o : Oper} {i : I} {w1 : World} (hc : compO P o = some i) (hp : isP i = true) (hN : ∀ d, i.dst = some d → d < N) (hw1 : Sat X w1 ρ H) (hs : Slots N ρ t a)
    (h : stepP X.GL H t i K) : PureAt X N P o ρ H a K := by
  obtain ⟨dst, op, tt, pos, af, gd⟩ := o
  unfold compO at hc
  dsimp only at hc
  split at hc
  -- move, assign
  · split at hc
    · rename_i hx; simp only [Option.some.injEq] at hc; subst hc; exact mov_ok rfl rfl (hN _ rfl) hs hx h
    · cases hc
  · split at hc
    · rename_i hx; simp only [Option.some.injEq] at hc; subst hc; exact mov_ok rfl rfl (hN _ rfl) hs hx h
    · cases hc
  -- pick
  · split at hc
    · rename_i hx; simp only [Option.some.injEq] at hc; subst hc; obtain ⟨h1, h2, h3⟩ := bool3 hx; exact pick_ok (hN _ rfl) hs h1 h2 h3 h
    · cases hc
  -- binOp
  · split at hc
    · simp only [Option.some.injEq] at hc; subst hc; simp [isP] at hp
    split at hc
    · rename_i hx; simp only [Bool.and_eq_true] at hx; exact compB_ok hc (hN _ (compB_pure hc)) hs hx.1 hx.2 h
    · cases hc
  -- not, neg
  · split at hc
    · rename_i hx; simp only [Option.some.injEq] at hc; subst hc; exact not_ok (hN _ rfl) hs hx h
    · cases hc
  · split at hc
    · rename_i hx; simp only [Option.some.injEq] at hc; subst hc; exact neg_ok (hN _ rfl) hs hx h
    · cases hc
  -- convert
  · split at hc
    · rename_i h1 h2
      split at hc
      · rename_i hx; simp only [Option.some.injEq] at hc; subst hc; exact conv_ok h1 h2 (hN _ rfl) hs hx h
      · cases hc
    · simp only [Option.some.injEq] at hc; subst hc; simp [isP] at hp
  -- nilCheck
  · split at hc
    · rename_i hx; simp only [Option.some.injEq] at hc; subst hc; exact nilc_ok (hN _ rfl) hs hx h
    · cases hc
  -- fieldAddr
  · split at hc
    · rename_i hu
      split at hc
      · rename_i hf
        split at hc
        · rename_i hz
          split at hc
          · rename_i hx; simp only [Bool.and_eq_true, bne_iff_ne] at hx; simp only [Option.some.injEq] at hc; subst hc; exact fld_ok hu hf hz hx.2 (hN _ rfl) hs hx.1 h
          · cases hc
        · cases hc
      · cases hc
    · cases hc
  -- indexAddr
  · split at hc
    · rename_i hu
      split at hc
      · rename_i hz
        split at hc
        · rename_i hx; simp only [Bool.and_eq_true] at hx; simp only [Option.some.injEq] at hc; subst hc; exact aidx_ok hu hz (hN _ rfl) hs hx.1 hx.2 h
        · cases hc
      · cases hc
    · rename_i hu
      split at hc
      · rename_i hz
        split at hc
        · rename_i hx; simp only [Bool.and_eq_true] at hx; simp only [Option.some.injEq] at hc; subst hc; exact sidx_ok hu hz (hN _ rfl) hs hx.1 hx.2 h
        · cases hc
      · cases hc
    · cases hc
  -- load
  · split at hc
    · rename_i hu hz
      split at hc
      · rename_i hx; simp only [Option.some.injEq] at hc; subst hc; exact ldn_ok hu (.inl ⟨_, rfl⟩) hz (hN _ rfl) hs hx hw1 h
      · cases hc
    · rename_i hu hz
      split at hc
      · rename_i hx; simp only [Option.some.injEq] at hc; subst hc; exact ldn_ok hu (.inr ⟨_, _, rfl⟩) hz (hN _ rfl) hs hx hw1 h
      · cases hc
    · rename_i hn1 hn2 hu hz
      split at hc
      · rename_i hx; simp only [Option.some.injEq] at hc; subst hc
        exact ld_ok hu hn1 hn2 (hN _ rfl) hs hx hw1 h
      · cases hc
    · cases hc
  -- store
  · split at hc
    · split at hc
      · simp only [Option.some.injEq] at hc; subst hc; simp [isP] at hp
      · cases hc
    · cases hc
  -- field
  · split at hc
    · rename_i hu
      split at hc
      · rename_i hf
        split at hc
        · rename_i hu2 hz
          split at hc
          · rename_i hx; simp only [Option.some.injEq] at hc; subst hc; exact fldvn_ok hu hf hu2 (.inl ⟨_, rfl⟩) hz (hN _ rfl) hs hx h
          · cases hc
        · rename_i hu2 hz
          split at hc
          · rename_i hx; simp only [Option.some.injEq] at hc; subst hc; exact fldvn_ok hu hf hu2 (.inr ⟨_, _, rfl⟩) hz (hN _ rfl) hs hx h
          · cases hc
        · rename_i hn1 hn2 hu2 hz
          split at hc
          · rename_i hx; simp only [Option.some.injEq] at hc; subst hc
            exact fldv1_ok hu hf hu2 hn1 hn2 (hN _ rfl) hs hx h
          · cases hc
        · cases hc
      · cases hc
    · cases hc
  -- slice
  · split at hc
    · rename_i hu
      split at hc
      · rename_i hz
        split at hc
        · rename_i hx; simp only [Bool.and_eq_true] at hx; simp only [Option.some.injEq] at hc; subst hc
          exact slc_ok hu hz (hN _ rfl) hs hx.1.1.1.1 hx.1.1.1.2 hx.1.1.2 hx.1.2 hx.2 h
        · cases hc
      · cases hc
    · simp only [Option.some.injEq] at hc; subst hc; simp [isP] at hp
  -- len
  · split at hc
    · rename_i hu
      split at hc
      · rename_i hx; simp only [Option.some.injEq] at hc; subst hc; exact len_ok hu (hN _ rfl) hs hx h
      · cases hc
    · rename_i hu
      split at hc
      · rename_i hx; simp only [Option.some.injEq] at hc; subst hc; exact lens_ok hu (hN _ rfl) hs hx h
      · cases hc
    · simp only [Option.some.injEq] at hc; subst hc; simp [isP] at hp
  -- cap
  · split at hc
    · rename_i hu
      split at hc
      · rename_i hx; simp only [Option.some.injEq] at hc; subst hc; exact cap_ok hu (hN _ rfl) hs hx h
      · cases hc
    · simp only [Option.some.injEq] at hc; subst hc; simp [isP] at hp
  -- extract
  · split at hc
    · rename_i hx; simp only [Option.some.injEq] at hc; subst hc; exact ext_ok (hN _ rfl) hs hx h
    · cases hc
  -- build
  · split at hc
    · rename_i hu hz
      split at hc
      · rename_i hps
        split at hc
        · rename_i hf; simp only [Option.some.injEq] at hc; subst hc
          exact bld_ok hu hz hps (fun f hf' => List.all_eq_true.1 hf f hf') (hN _ rfl) hs h
        · cases hc
      · cases hc
    · simp only [Option.some.injEq] at hc; subst hc; simp [isP] at hp
  -- box, alloc, buildSlice, all else
  · split at hc
    · simp only [Option.some.injEq] at hc; subst hc; simp [isP] at hp
    · cases hc
  · split at hc
    · simp only [Option.some.injEq] at hc; subst hc; simp [isP] at hp
    · cases hc
  · split at hc
    · split at hc
      · split at hc
        · split at hc
          · simp only [Option.some.injEq] at hc; subst hc; simp [isP] at hp
          · cases hc
        · cases hc
      · cases hc
    · cases hc
  all_goals
    repeat' split at hc
    all_goals first
      | (cases hc; done)
      | (simp only [Option.some.injEq] at hc; subst hc; simp [isP] at hp; done)

theorem eff_ok {K : Env → List SB → Prop} {o : Oper} {i : I} {w : World} (hc : compO P o = some i) (hp : isP i = false) (hh : isH i = false) (hN : ∀ d, i.dst = some d → d < N) (hw : Sat X w ρ H) (hs : Slots N ρ t a)
    (h : stepE X.GL H t i K) : EffAt X N P o ρ a w K := by
  obtain ⟨dst, op, tt, pos, af, gd⟩ := o
  unfold compO at hc
  dsimp only at hc
  split at hc
  case h_12 =>
    split at hc
    · rename_i hz
      split at hc
      · rename_i hx; simp only [Bool.and_eq_true] at hx; simp only [Option.some.injEq] at hc; subst hc; exact st_ok hz hw hs hx.1 hx.2 h
      · cases hc
    · cases hc
  case h_4 =>
    split at hc
    · simp only [Option.some.injEq] at hc; subst hc; simp [isH] at hh
    split at hc
    · have := compB_isP hc; rw [hp] at this; cases this
    · cases hc
  case h_19 =>
    split at hc
    · rename_i hx; simp only [Option.some.injEq] at hc; subst hc; exact box_ok (hN _ rfl) hw hs hx h
    · cases hc
  case h_20 =>
    split at hc
    · rename_i hz; simp only [Option.some.injEq] at hc; subst hc; exact new_ok hz (hN _ rfl) hw hs h
    · cases hc
  case h_21 =>
    split at hc
    · rename_i hu
      split at hc
      · rename_i hz
        split at hc
        · rename_i hzz hps
          split at hc
          · rename_i hx
            simp only [Bool.and_eq_true, decide_eq_true_eq, Bool.or_eq_true, beq_iff_eq] at hx
            simp only [Option.some.injEq] at hc; subst hc
            exact bsl_ok hu hz hzz hps hx.1 hx.2 (hN _ rfl) hw hs h
          · cases hc
        · cases hc
      · cases hc
    · cases hc
  all_goals
    repeat' split at hc
    all_goals first
      | (cases hc; done)
      | (simp only [Option.some.injEq] at hc; subst hc; first | (simp [isP] at hp; done) | (simp [isH] at hh; done))
theorem hard_dst {o : Oper} {i : I} (hc : compO P o = some i) : i.dst = o.dst := by
  obtain ⟨dst, op, tt, pos, af, gd⟩ := o
  unfold compO at hc
  dsimp only at hc
  split at hc
  case h_4 =>
    split at hc
    · simp only [Option.some.injEq] at hc; subst hc; rfl
    split at hc
    · exact compB_pure hc
    · cases hc
  all_goals
    repeat' split at hc
    all_goals first
      | (cases hc; done)
      | (simp only [Option.some.injEq] at hc; subst hc; rfl)
theorem hard_op {o o' : Oper} {d : Option Nat} (hc : compO P o = some (.hard d o')) : o' = o := by
  obtain ⟨dst, op, tt, pos, af, gd⟩ := o
  unfold compO at hc
  dsimp only at hc
  split at hc
  case h_4 =>
    split at hc
    · simp only [Option.some.injEq] at hc; cases hc; rfl
    split at hc
    · have := compB_isP hc; simp [isP] at this
    · cases hc
  all_goals
    repeat' split at hc
    all_goals first
      | (cases hc; done)
      | (simp only [Option.some.injEq] at hc; cases hc; done)
      | (simp only [Option.some.injEq] at hc; cases hc; rfl)
end
end Go.SX
