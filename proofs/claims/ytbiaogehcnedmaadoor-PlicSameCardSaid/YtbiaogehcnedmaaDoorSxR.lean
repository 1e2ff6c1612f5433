/-
  Numbers; calls without regions.
-/
import Derived.Test.YtbiaogehcnedmaaDoorSxQ
set_option linter.unusedVariables false
set_option linter.unusedSimpArgs false
namespace Go.SX
open Go
theorem ishr_u64 {b i : Int} (h0 : 0 ≤ b) (h1 : i < 64) (h2 : 0 ≤ i) : ishr .u64 b i = b / 2 ^ i.toNat := by
  unfold ishr
  have : (min i.toNat IntKind.u64.bits) = i.toNat := by have : IntKind.u64.bits = 64 := rfl; omega
  rw [this, Int.fdiv_eq_ediv_of_nonneg _ (by exact Int.le_of_lt (Int.pow_pos (by omega)))]
theorem wrap_u64 {b : Int} (h0 : 0 ≤ b) (h1 : b < 18446744073709551616) : IntKind.u64.wrap b = b := by
  simp [IntKind.wrap, IntKind.bits, IntKind.signed]
  omega
theorem wrap_u8 {b : Int} (h0 : 0 ≤ b) (h1 : b < 256) : IntKind.u8.wrap b = b := by
  simp [IntKind.wrap, IntKind.bits, IntKind.signed]
  omega
theorem iand_one {b : Int} (h0 : 0 ≤ b) (h1 : b < 18446744073709551616) : iand .u64 b 1 = b % 2 := by
  unfold iand
  obtain ⟨n, rfl⟩ := Int.eq_ofNat_of_zero_le h0
  have : (BitVec.ofInt IntKind.u64.bits (n : Int) &&& BitVec.ofInt IntKind.u64.bits 1).toNat = n % 2 := by
    have e1 : (BitVec.ofInt IntKind.u64.bits (n : Int)).toNat = n := by
      show (BitVec.ofInt 64 (n : Int)).toNat = n
      simp; omega
    have e2 : (BitVec.ofInt IntKind.u64.bits 1).toNat = 1 := by decide
    rw [BitVec.toNat_and, e1, e2, Nat.and_one_is_mod]
  rw [this, wrap_u64 (by omega) (by omega)]
  omega
theorem wrap_i64 {b : Int} (h0 : -9223372036854775808 ≤ b) (h1 : b < 9223372036854775808) : IntKind.i64.wrap b = b := by
  simp [IntKind.wrap, IntKind.bits, IntKind.signed]
  omega
theorem wrap_u32 {b : Int} (h0 : 0 ≤ b) (h1 : b < 4294967296) : IntKind.u32.wrap b = b := by
  simp [IntKind.wrap, IntKind.bits, IntKind.signed]
  omega
theorem wrap_u8_mod (b : Int) : IntKind.u8.wrap b = b % 256 := by
  simp [IntKind.wrap, IntKind.bits, IntKind.signed]
theorem wrap_u64_mod (b : Int) : IntKind.u64.wrap b = b % 18446744073709551616 := by
  simp [IntKind.wrap, IntKind.bits, IntKind.signed]
theorem wrap_u8_lo (b : Int) : 0 ≤ IntKind.u8.wrap b ∧ IntKind.u8.wrap b < 256 := by rw [wrap_u8_mod]; omega
theorem iand_u8 (a b : Int) : 0 ≤ iand .u8 a b ∧ iand .u8 a b < 256 := wrap_u8_lo _
theorem ior_u8 (a b : Int) : 0 ≤ ior .u8 a b ∧ ior .u8 a b < 256 := wrap_u8_lo _
theorem mix_intro {X : Cx} {N : Nat} {P : Program} {p : PL} {t : Env} {H : List SB} {Q : Exit → Env → List SB → Prop} (M : List Nat) (h : evL X N P M p t H (Q .normal)) : ev X N P (.mix false p) t H Q := by
  rw [C_mix1]; exact ⟨M, h⟩
theorem setMany_nil (H : List SB) (l : List SB) : setMany H [] l = H := by cases l <;> rfl
theorem getmid {p r : List Value} {v : Value} : (p ++ v :: r)[p.length]? = some v := by simp
/-- A callee that is handed no region, and gives a value without one. -/
theorem call_leaf {X : Cx} {P : Program} {f : FuncId} {vs : List Value} {H : List SB} {K : Value → List SB → Prop} {g : Tg K} {r : Value} {GL : List (Nat × List Value)} (hX : X.GL = GL) (h : SX.Spec P GL f 0 vs [] (fun v H' => v = r ∧ H' = [])) (hr : leaf r = true) (hv : leafL vs = true)
    (hB : H.length < BAD) (hk : K r H) : CallS X P f vs H K g := by
  subst hX
  refine call_of_spec h [] (by simp) (by simp) hB (Nat.zero_le _) (by simp [selH]) (ridL_leaf vs hv).symm ?_
  rintro v H' ⟨rfl, rfl⟩ _
  exact ⟨by simpa using hB, by rw [rid_leaf _ hr]; simpa [merge, setMany, deads] using hk⟩
attribute [go_sem] BL.kn BL.ce BL.oc kn_sl ce_sl oc_sl getmid sl_f sl_t fb_f fb_t
attribute [push_cast] selE.eq_1 selE.eq_2 SX.get.eq_1 SX.get.eq_2 imp_self true_implies agree.eq_1 agree.eq_2 nm_eq req_true merge setMany.eq_1 setMany_nil deads.eq_1 deads.eq_2 mergeT sel news.eq_1 news.eq_2 selH.eq_1 selH.eq_2 List.take_succ_cons List.take_zero List.take_nil List.drop_succ_cons List.drop_zero List.drop_nil List.map_cons List.map_nil ridB.eq_1 ridB.eq_2 ridB.eq_4 ridL ridA rid BL.rid BL.ridB rid_sl ridB_fb Option.getD_some Option.getD_none List.mem_cons List.not_mem_nil List.nodup_cons List.getElem?_nil List.range_succ List.range_zero forall_eq_or_imp or_false false_or List.append_nil List.nodup_nil implies_true or_true true_or forall_eq GB BAD List.getElem?_cons_zero List.getElem?_cons_succ List.set_cons_zero List.set_cons_succ List.cons_append List.nil_append List.length_cons List.length_nil List.contains_cons List.contains_nil Bool.not_true Bool.not_false Bool.or_true Bool.true_or Bool.or_false Bool.false_or Bool.and_true Bool.true_and Bool.and_false Bool.false_and Bool.false_eq_true Bool.true_eq_false Option.isSome_some Option.isSome_none Option.isNone_some Option.isNone_none Option.map_some Option.map_none Nat.zero_add Nat.add_zero and_true true_and and_self false_and and_false eq_self Nat.le_refl Int.le_refl decide_true decide_false not_true_eq_false not_false_eq_true Nat.one_ne_zero Nat.zero_ne_one ne_eq BL.kn BL.ce BL.oc kn_sl ce_sl oc_sl castN Int.toNat_natCast Int.toNat_zero Nat.mul_one
end Go.SX
