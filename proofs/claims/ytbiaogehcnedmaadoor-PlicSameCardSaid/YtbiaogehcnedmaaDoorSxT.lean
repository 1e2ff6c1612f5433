/-
  Slices of whatever elements; structs held against each other.
-/
import Derived.Test.YtbiaogehcnedmaaDoorSxS
import Derived.Laws.StructEq
import Derived.ChangeKeysEq
set_option linter.unusedVariables false
set_option linter.unusedSimpArgs false
namespace Go.SX
open Go

/-! ### Slices -/
/-- A slice's elements: n of them, their cells; nil or not. -/
structure VL where
  nil : Bool
  pre : List Value
  n : Nat
  l : List Value
  post : List Value
  cap : Nat
  room : Nat
structure VL.ok (sz : Nat) (b : VL) : Prop where
  hn : b.nil = true → b.n = 0 ∧ b.cap = 0
  hp : leafL b.pre = true
  hl : leafL b.l = true
  hq : leafL b.post = true
  hr : b.pre.length + b.cap * sz ≤ b.room
  hc : b.n ≤ b.cap
  hz : b.l.length = b.n * sz
  h1 : oneL b.l = true
def VL.v (b : VL) (k : Nat) : Value := sl b.nil k b.pre.length b.n b.cap
def VL.o (b : VL) : SB := fb b.nil (b.pre ++ (b.l ++ b.post)) b.room
theorem VL.rid (θ : Nat → Nat) (b : VL) (k : Nat) : SX.rid θ (b.v k) = b.v (θ k) := rid_sl ..
theorem VL.ridB (θ : Nat → Nat) (b : VL) : SX.ridB θ b.o = b.o := ridB_fb ..
theorem VL.kn (b : VL) (k : Nat) : known (b.v k) = true := kn_sl ..
theorem VL.ce (b : VL) (k : Nat) : cl (b.v k) = [b.v k] := ce_sl ..
theorem VL.oc (b : VL) (k : Nat) : (b.v k).oneCell' = true := oc_sl ..
theorem VL.sl {sz : Nat} (b : VL) (h : b.ok sz) (k : Nat) {K : Option Addr → Nat → Nat → Prop} : asSl (b.v k) K = K (if b.nil then none else some ⟨k, b.pre.length, none⟩) b.n b.cap := asSl_sl h.hn
def VL.none : VL := ⟨true, [], 0, [], [], 0, 0⟩
theorem VL.none_ok {sz : Nat} : VL.none.ok sz := ⟨fun _ => ⟨rfl, rfl⟩, rfl, rfl, rfl, by simp [VL.none], by simp [VL.none], by simp [VL.none], rfl⟩
theorem VL.none_v (k : Nat) : VL.none.v k = .slice Option.none 0 0 := rfl
theorem VL.none_o : VL.none.o = .dead := rfl
theorem VL.ok.nil_l {sz : Nat} {b : VL} (h : b.ok sz) (hn : b.nil = true) : b.l = [] := by
  have := h.hz
  rw [(h.hn hn).1, Nat.zero_mul] at this
  exact List.eq_nil_of_length_eq_zero this
attribute [go_sem] VL.kn VL.ce VL.oc VL.none_v
attribute [push_cast] VL.rid VL.ridB VL.none_o VL.none_v
/-- An element's type. -/
def ElemT (P : Program) (T e : TypeId) (sz by' : Nat) : Prop := P.underlying T = some (.slice e) ∧ ∃ i z, P.info? e = some i ∧ i.zero = some z ∧ i.size = sz ∧ z.cells.size = sz ∧ i.bytes = by'
theorem elemT_of {P : Program} {T e : TypeId} {sz by' : Nat} (h : P.underlying T = some (.slice e)) (h2 : ((P.info? e).bind fun i => i.zero.map fun z => (i.size, z.cells.size, i.bytes)) = some (sz, sz, by')) : ElemT P T e sz by' := by
  refine ⟨h, ?_⟩
  cases hi : P.info? e with
  | none => rw [hi] at h2; cases h2
  | some i =>
    rw [hi] at h2
    simp only [Option.bind_some] at h2
    cases hz : i.zero with
    | none => rw [hz] at h2; cases h2
    | some z =>
      rw [hz] at h2
      simp only [Option.map_some, Option.some.injEq, Prod.mk.injEq] at h2
      exact ⟨i, z, rfl, hz, h2.1, h2.2.1, h2.2.2⟩
theorem srcC_vl {GL : List (Nat × List Value)} {H : List SB} {b : VL} {k sz : Nat} (hb : b.ok sz) (hk : H[k]? = some b.o) (hB : k < BAD) : srcC GL H (if b.nil = true then Option.none else some ⟨k, b.pre.length, Option.none⟩) (b.n * sz) = some b.l := by
  cases hn : b.nil with
  | true => simp [srcC, (hb.hn hn).1, hb.nil_l hn]
  | false =>
    have hbo : b.o = .flat (b.pre ++ (b.l ++ b.post)) b.room true := by rw [VL.o, hn, fb_f]
    simp only [srcC, SX.look, Bool.false_eq_true, if_false]
    rw [if_neg (by unfold GB; unfold BAD at hB; omega), if_neg (by omega), hk, hbo]
    simp only [rdn]
    rw [if_pos (by simp [hb.hz])]
    simp [← hb.hz]
theorem VL.v_some {b : VL} (hn : b.nil = false) (k : Nat) : b.v k = .slice (some ⟨k, b.pre.length, Option.none⟩) b.n b.cap := by rw [VL.v, hn, sl_f]
theorem VL.at {b : VL} (hn : b.nil = false) {i : Nat} (hi : i < b.l.length) : rd (some b.o) (b.pre.length + i) = b.l[i]? := by
  rw [VL.o, hn, fb_f]
  simp only [rd]
  rw [List.getElem?_append_right (by omega), Nat.add_sub_cancel_left, List.getElem?_append_left hi]
theorem VL.nil_of {sz : Nat} {b : VL} (h : b.ok sz) {i : Nat} (hi : i < b.n) : b.nil = false := by
  cases hn : b.nil with
  | false => rfl
  | true => have := (h.hn hn).1; omega
theorem append_vl {X : Cx} {N : Nat} {P : Program} {H : List SB} {t : Env} {K : Env → List SB → Prop} {o : Oper} {d k m xc sz by' : Nat} {T e : TypeId} {s x : Operand} {b : VL} {j : Addr} {src : List Value} (hT : ElemT P T e sz by') (h0 : 0 < sz) (hby : 0 < by')
    (ho : o.op = .call { callee := .builtin .append, args := #[s, x], argTypes := #[T, T] }) (hd : o.dst = some d) (hN : d < N) (hs : okx s = true) (hx : okx x = true)
    (hb : b.ok sz) (es : oe t s = b.v k) (ex : oe t x = .slice (some j) m xc) (hk : H[k]? = some b.o) (hB : H.length < BAD) (hm : 0 < m)
    (hsrc : srcC X.GL H (some j) (m * sz) = some src) (hsl : leafL src = true) (hso : oneL src = true) (hl : (b.n + m) * by' ≤ 140737488355328) (hne : k ≠ j.block)
    (hK : ∀ b' : VL, b'.ok sz → b'.nil = false → b'.n = b.n + m → b'.l = b.l ++ src → K (SX.put t d (b'.v H.length)) (H.set k .dead ++ [b'.o])) : HardK X N P o t H K := by
  obtain ⟨ht, i, z, hi, hz, hsz, hzc, hbt⟩ := hT
  have hkl : k < H.length := (List.getElem?_eq_some_iff.1 hk).1
  have hsl2 : src.length = m * sz := by
    simp only [srcC] at hsrc
    cases hq : SX.look X.GL H j.block with
    | none => rw [hq] at hsrc; simp [rdn] at hsrc
    | some q =>
      rw [hq] at hsrc
      cases q <;> simp only [rdn] at hsrc <;> try (cases hsrc; done)
      all_goals
        split at hsrc <;> try (cases hsrc; done)
        simp only [Option.some.injEq] at hsrc
        subst hsrc
        simp; omega
  have fin : ∀ cap' room, b.n + m ≤ cap' → cap' * sz ≤ room → K (SX.put t d (.slice (some ⟨H.length, 0, Option.none⟩) (b.n + m) cap')) (H.set k .dead ++ [mkR (b.l ++ src) room]) := by
    intro cap' room h1 h2
    have h3 : oneL (b.l ++ src) = true := by
      have := hb.h1
      revert this
      generalize b.l = u
      intro hu
      induction u with
      | nil => simpa using hso
      | cons v u ih => simp only [List.cons_append, oneL, Bool.and_eq_true] at *; exact ⟨hu.1, ih hu.2⟩
    have := hK ⟨false, [], b.n + m, b.l ++ src, [], cap', room⟩ ⟨by simp, rfl, by simp [leafL_append, hb.hl, hsl], rfl, by simpa using h2, h1, by simp [hb.hz, hsl2, Nat.add_mul], h3⟩ rfl rfl rfl
    simpa [VL.v, VL.o, sl, fb, mkR, leafL_append, hb.hl, hsl] using this
  cases hnil : b.nil with
  | true =>
    obtain ⟨hl0, hc0⟩ := hb.hn hnil
    have hll := hb.nil_l hnil
    have e1 : oe t s = .slice Option.none 0 0 := by rw [es, VL.v, hnil, sl_t]
    have hdead : H.set k .dead = H := by
      have : b.o = .dead := by rw [VL.o, hnil, fb_t]
      rw [this] at hk
      obtain ⟨hlt, hk⟩ := List.getElem?_eq_some_iff.1 hk
      rw [← hk]; simp
    refine append_ok (sz := sz) (old := []) (src := src) ho hd hN hs hx ht hi hz hsz hzc h0 (by rw [hbt]; exact hby) e1 ex (by rw [hbt, ← hl0]; exact hl) hB (by simp [dstC]) (by simpa using hsrc) hso (by simp) ?_ ?_
    · intro cap' room h1 h2
      have := fin cap' room (by rw [hl0]; exact h1) h2
      rw [hdead, hl0, hll] at this
      simpa [killO] using this
    · intro _ hm'
      omega
  | false =>
    have e1 : oe t s = .slice (some ⟨k, b.pre.length, Option.none⟩) b.n b.cap := by rw [es, VL.v, hnil, sl_f]
    have hbo : b.o = .flat (b.pre ++ (b.l ++ b.post)) b.room true := by rw [VL.o, hnil, fb_f]
    rw [hbo] at hk
    have hcz : b.n * sz ≤ b.cap * sz := Nat.mul_le_mul_right _ hb.hc
    refine append_ok (sz := sz) (old := b.l) (src := src) ho hd hN hs hx ht hi hz hsz hzc h0 (by rw [hbt]; exact hby) e1 ex (by rw [hbt]; exact hl) hB ?_ (by simpa using hsrc) hso (by rintro c c' hc hc'; cases hc; cases hc'; exact hne) ?_ (by simp)
    · simp only [dstC, hk]
      rw [if_pos ⟨by omega, by simp [hb.hz], hb.hr, hcz⟩]
      rw [List.take_append, List.take_of_length_le (by omega), Nat.add_sub_cancel_left, List.take_append_of_le_length (by simp [hb.hz]), List.take_of_length_le (by simp [hb.hz])]
      simp
    · intro cap' room h1 h2
      exact fin cap' room h1 h2

/-! ### Structs held against each other -/
mutual
def eqT (P : Program) : Nat → TypeId → Bool
  | 0, _ => false
  | n + 1, t => match P.underlying t with
    | some .bool => true
    | some (.int _) => true
    | some (.struct fs) => !P.stoodInHeld t && eqF P n fs.toList
    | some (.array _ e) => eqT P n e
    | _ => false
def eqF (P : Program) : Nat → List Field → Bool
  | _, [] => true
  | 0, _ => false
  | n + 1, f :: r => f.name != "_" && eqT P n f.type && eqF P n r
end
/-- Cells as a value of their type. -/
def valOf (P : Program) (t : TypeId) (l : List Value) : Value := match P.underlying t with
  | some (.struct _) => .agg ⟨l⟩
  | some (.array _ _) => .agg ⟨l⟩
  | _ => l.headD undef
theorem FitL.split : ∀ {a b : List CK} {x : List Value}, FitL (a ++ b) x → FitL a (x.take a.length) ∧ FitL b (x.drop a.length)
  | [], b, x, h => by simpa [FitL] using h
  | k :: a, b, v :: x, h => by
    obtain ⟨h1, h2⟩ := FitL.split (a := a) (b := b) (x := x) h.2
    exact ⟨⟨h.1, h1⟩, h2⟩
  | k :: a, b, [], h => h.elim
theorem append_iff {a b c d : List Value} (h : a.length = c.length) : (a ++ b = c ++ d) ↔ (a = c ∧ b = d) := ⟨fun e => List.append_inj e h, fun ⟨e1, e2⟩ => by rw [e1, e2]⟩
theorem FitL.one {k : CK} {l : List Value} (h : FitL [k] l) : ∃ v, l = [v] ∧ fit1 k v := by
  match l, h with
  | [v], h => exact ⟨v, rfl, h.1⟩
theorem run_part {P : Program} {w : World} {t : TypeId} {xs : Array Value} {off n : Nat} {ks : List CK} (hf : flatT P n t = some ks) (hC : P.cellsOf t = ks.length) (hl : off + ks.length ≤ xs.size) : (part t xs off).run P w = .ok (valOf P t ((xs.toList.drop off).take ks.length)) w := by
  cases n with
  | zero => simp [flatT] at hf
  | succ n =>
    simp only [flatT] at hf
    split at hf <;> try (cases hf; done)
    · rename_i hu
      simp only [Option.some.injEq] at hf; subst hf
      simp only [List.length_cons, List.length_nil, Nat.zero_add] at hl ⊢
      have hx : xs[off]? = some xs[off] := Array.getElem?_eq_getElem (by omega)
      have e : valOf P t ((xs.toList.drop off).take 1) = xs[off] := by
        simp only [valOf, hu]
        rw [List.drop_eq_getElem_cons (by rw [Array.length_toList]; omega)]
        simp
      rw [e]
      simp [part, isAgg, run_underlying hu, hx]
    · rename_i k hu
      simp only [Option.some.injEq] at hf; subst hf
      simp only [List.length_cons, List.length_nil, Nat.zero_add] at hl ⊢
      have hx : xs[off]? = some xs[off] := Array.getElem?_eq_getElem (by omega)
      have e : valOf P t ((xs.toList.drop off).take 1) = xs[off] := by
        simp only [valOf, hu]
        rw [List.drop_eq_getElem_cons (by rw [Array.length_toList]; omega)]
        simp
      rw [e]
      simp [part, isAgg, run_underlying hu, hx]
    all_goals
      rename_i hu
      obtain ⟨i, hi⟩ := info_of_underlying hu
      have hsz := _root_.Go.run_sizeOf w hi
      simp only [part, isAgg, Sem.run_bind, run_underlying hu, Result.andThen_ok, Sem.run_pure, if_true, hsz, valOf, hu, hC, Sem.run_ite]
      have : xs.extract off (off + ks.length) = ⟨(xs.toList.drop off).take ks.length⟩ := by
        apply Array.toList_inj.1
        simp [List.extract_eq_take_drop]
      rw [this]
theorem eqIn_flat {P : Program} {w : World} : ∀ (n : Nat), (∀ (t : TypeId) (ks : List CK), flatT P n t = some ks → eqT P n t = true → ∀ d, n ≤ d → ∀ l m : List Value, FitL ks l → FitL ks m →
      ∃ r : Bool, (Op.equalIn d t (valOf P t l) (valOf P t m)).run P w = .ok r w ∧ (r = true ↔ l = m)) ∧
    (∀ (fs : List Field) (off : Nat) (ks : List CK), flatF P n fs off = some ks → eqF P n fs = true → ∀ d, n ≤ d → ∀ xs ys : Array Value, off ≤ xs.size → off ≤ ys.size → FitL ks (xs.toList.drop off) → FitL ks (ys.toList.drop off) →
      ∃ r : Bool, (Op.eqFields d xs ys fs).run P w = .ok r w ∧ (r = true ↔ xs.toList.drop off = ys.toList.drop off)) := by
  intro n
  induction n with
  | zero =>
    refine ⟨fun t ks h => by simp [flatT] at h, fun fs off ks h he d hd xs ys hx hy h1 h2 => ?_⟩
    cases fs with
    | nil =>
      simp only [flatF, Option.some.injEq] at h; subst h
      have e1 := List.eq_nil_of_length_eq_zero h1.length
      have e2 := List.eq_nil_of_length_eq_zero h2.length
      exact ⟨true, by simp [Op.eqFields], by simp [e1, e2]⟩
    | cons f r => simp [flatF] at h
  | succ n ih =>
    refine ⟨fun t ks h he d hd l m hl hm => ?_, fun fs off ks h he d hd xs ys hx hy h1 h2 => ?_⟩
    · obtain ⟨d, rfl⟩ : ∃ d', d = d' + 1 := ⟨d - 1, by omega⟩
      simp only [flatT] at h
      split at h <;> try (cases h; done)
      · rename_i hu
        simp only [Option.some.injEq] at h; subst h
        obtain ⟨a, rfl, ha⟩ := hl.one
        obtain ⟨b, rfl, hb⟩ := hm.one
        cases a <;> simp only [fit1] at ha <;> try (exact ha.elim)
        cases b <;> simp only [fit1] at hb <;> try (exact hb.elim)
        rename_i a b
        refine ⟨a == b, ?_, by simp⟩
        simp only [valOf, hu]
        simpa using run_equalIn_bool' w d t a b hu
      · rename_i k hu
        simp only [Option.some.injEq] at h; subst h
        obtain ⟨a, rfl, ha⟩ := hl.one
        obtain ⟨b, rfl, hb⟩ := hm.one
        cases a <;> simp only [fit1] at ha <;> try (exact ha.elim)
        rename_i k1 a
        cases b <;> simp only [fit1] at hb <;> try (exact hb.elim)
        rename_i k2 b
        obtain ⟨rfl, ha⟩ := ha
        obtain ⟨rfl, hb⟩ := hb
        refine ⟨a == b, ?_, by simp⟩
        simp only [valOf, hu]
        simpa using run_equalIn_int w d t _ _ a b hu
      · rename_i fs hu
        simp only [eqT, hu, Bool.and_eq_true, Bool.not_eq_true'] at he
        have hfo : P.fieldsOf t = fs := by simp [Program.fieldsOf, hu]
        obtain ⟨r, h3, h4⟩ := ih.2 fs.toList 0 ks h he.2 d (by omega) ⟨l⟩ ⟨m⟩ (by simp) (by simp) (by simpa using hl) (by simpa using hm)
        refine ⟨r, ?_, by simpa using h4⟩
        simp only [valOf, hu]
        rw [run_equalIn_struct w d t _ _ (by rw [hfo]; exact hu) he.1, hfo]
        exact h3
      · rename_i c e hu
        split at h <;> try (cases h; done)
        rename_i ke hke
        split at h <;> try (cases h; done)
        rename_i hC
        simp only [Option.some.injEq] at h; subst h
        simp only [eqT, hu] at he
        obtain ⟨i, hi⟩ := info_of_underlying hu
        have key : ∀ (k j : Nat) (as bs : List Value), as.length = (j + k) * ke.length → bs.length = (j + k) * ke.length → FitL (List.replicate k ke).flatten (as.drop (j * ke.length)) → FitL (List.replicate k ke).flatten (bs.drop (j * ke.length)) →
            ∃ r : Bool, (Op.eqItems d e ke.length ⟨as⟩ ⟨bs⟩ (List.range' j k)).run P w = .ok r w ∧ (r = true ↔ as.drop (j * ke.length) = bs.drop (j * ke.length)) := by
          intro k
          induction k with
          | zero =>
            intro j as bs ha hb _ _
            refine ⟨true, by simp [Op.eqItems], ?_⟩
            rw [List.drop_eq_nil_of_le (by simp at ha; omega), List.drop_eq_nil_of_le (by simp at hb; omega)]
            simp
          | succ k ihk =>
            intro j as bs ha hb hfa hfb
            rw [List.replicate_succ, List.flatten_cons] at hfa hfb
            obtain ⟨a1, a2⟩ := hfa.split
            obtain ⟨b1, b2⟩ := hfb.split
            have eJ : (j + 1) * ke.length = j * ke.length + ke.length := by rw [Nat.add_mul, Nat.one_mul]
            have hle : (j + 1) * ke.length ≤ (j + (k + 1)) * ke.length := Nat.mul_le_mul_right _ (by omega)
            obtain ⟨r, h3, h4⟩ := ih.1 e ke hke he d (by omega) _ _ a1 b1
            rw [List.drop_drop, ← eJ] at a2 b2
            obtain ⟨r', h5, h6⟩ := ihk (j + 1) as bs (by rw [ha]; congr 1; omega) (by rw [hb]; congr 1; omega) a2 b2
            have pa := run_part (w := w) (xs := ⟨as⟩) (off := j * ke.length) hke hC (by simp; omega)
            have pb := run_part (w := w) (xs := ⟨bs⟩) (off := j * ke.length) hke hC (by simp; omega)
            simp only at pa pb
            have hsplit : (as.drop (j * ke.length) = bs.drop (j * ke.length)) ↔ ((as.drop (j * ke.length)).take ke.length = (bs.drop (j * ke.length)).take ke.length ∧ as.drop ((j + 1) * ke.length) = bs.drop ((j + 1) * ke.length)) := by
              have := append_iff (a := (as.drop (j * ke.length)).take ke.length) (b := as.drop ((j + 1) * ke.length)) (c := (bs.drop (j * ke.length)).take ke.length) (d := bs.drop ((j + 1) * ke.length)) (by simp; omega)
              rw [eJ, ← List.drop_drop, ← List.drop_drop, List.take_append_drop, List.take_append_drop] at this
              rw [eJ, ← List.drop_drop, ← List.drop_drop]
              exact this
            rw [List.range'_succ]
            simp only [Op.eqItems, Sem.run_bind, pa, pb, Result.andThen_ok, h3]
            cases r with
            | false =>
              refine ⟨false, by simp, ?_⟩
              rw [hsplit]
              have := h4
              simp at this ⊢
              exact fun e => absurd e this
            | true =>
              refine ⟨r', by simpa using h5, ?_⟩
              rw [hsplit, h6]
              simp [h4.1 rfl]
        have hll := hl.length
        have hml := hm.length
        simp only [List.length_flatten, List.map_replicate, List.sum_replicate_nat] at hll hml
        obtain ⟨r, h3, h4⟩ := key c 0 l m (by simpa using hll) (by simpa using hml) (by simpa using hl) (by simpa using hm)
        refine ⟨r, ?_, by simpa using h4⟩
        simp only [valOf, hu]
        rw [run_equalIn_array w d _ _ hu (Option.some_get (by
          have : 0 = 0 := rfl
          exact (by
            cases hq : P.info? e with
            | none => exact absurd hke (by
                cases n with
                | zero => simp [flatT]
                | succ n => simp [flatT, Program.underlying, hq])
            | some i => rfl) : (P.info? e).isSome = true)).symm, hC, List.range_eq_range']
        exact h3
    · cases fs with
      | nil =>
        simp only [flatF, Option.some.injEq] at h; subst h
        have e1 := List.eq_nil_of_length_eq_zero h1.length
        have e2 := List.eq_nil_of_length_eq_zero h2.length
        exact ⟨true, by simp [Op.eqFields], by simp [e1, e2]⟩
      | cons f r =>
        simp only [flatF] at h
        split at h <;> try (cases h; done)
        rename_i a b ha hb
        split at h <;> try (cases h; done)
        rename_i hc
        obtain ⟨rfl, hc⟩ := hc
        simp only [Option.some.injEq] at h; subst h
        simp only [eqF, Bool.and_eq_true, bne_iff_ne, ne_eq] at he
        obtain ⟨a1, a2⟩ := h1.split
        obtain ⟨b1, b2⟩ := h2.split
        rw [hc] at hb
        have lx := h1.length
        have ly := h2.length
        simp only [List.length_drop, Array.length_toList, List.length_append] at lx ly
        obtain ⟨q, h3, h4⟩ := ih.1 f.type a ha he.1.2 d (by omega) _ _ a1 b1
        rw [List.drop_drop] at a2 b2
        obtain ⟨q', h5, h6⟩ := ih.2 r _ b hb he.2 d (by omega) xs ys (by omega) (by omega) a2 b2
        have pa := run_part (w := w) (xs := xs) (off := f.offset) ha hc (by omega)
        have pb := run_part (w := w) (xs := ys) (off := f.offset) ha hc (by omega)
        have hsplit : (xs.toList.drop f.offset = ys.toList.drop f.offset) ↔ ((xs.toList.drop f.offset).take a.length = (ys.toList.drop f.offset).take a.length ∧ xs.toList.drop (f.offset + a.length) = ys.toList.drop (f.offset + a.length)) := by
          have := append_iff (a := (xs.toList.drop f.offset).take a.length) (b := xs.toList.drop (f.offset + a.length)) (c := (ys.toList.drop f.offset).take a.length) (d := ys.toList.drop (f.offset + a.length)) (by simp; omega)
          rw [← List.drop_drop, ← List.drop_drop, List.take_append_drop, List.take_append_drop] at this
          rw [← List.drop_drop, ← List.drop_drop]
          exact this
        simp only [Op.eqFields, ne_eq, he.1.1, not_false_eq_true, if_true, Sem.run_bind, pa, pb, Result.andThen_ok, h3]
        cases q with
        | false =>
          refine ⟨false, by simp, ?_⟩
          rw [hsplit]
          have := h4
          simp at this ⊢
          exact fun e => absurd e this
        | true =>
          refine ⟨q', by simpa using h5, ?_⟩
          rw [hsplit, h6]
          simp [h4.1 rfl]
theorem FitL.leaf : ∀ {ks : List CK} {l : List Value}, FitL ks l → leafL l = true
  | [], [], _ => rfl
  | k :: ks, v :: vs, h => by
    have h1 := h.1
    have : SX.leaf v = true := by
      cases k <;> cases v <;> simp only [fit1] at h1 <;> rfl
    simp [leafL, this, FitL.leaf h.2]
  | [], _ :: _, h => h.elim
  | _ :: _, [], h => h.elim
theorem aeq_ok {X : Cx} {N : Nat} {P : Program} {H : List SB} {t : Env} {K : Env → List SB → Prop} {o : Oper} {d n : Nat} {T : TypeId} {x y : Operand} {ks : List CK} {l m : List Value} {g : TypeId} (ne : Bool)
    (ho : o.op = .binOp (if ne = true then .neq else .eql) T x y g) (hd : o.dst = some d) (hN : d < N) (hx : okx x = true) (hy : okx y = true) (hu : ∀ l, valOf P T l = .agg ⟨l⟩)
    (hf : flatT P n T = some ks) (he : eqT P n T = true) (hg : P.eqGuardType P.depth T = false) (hn : n ≤ 10000) (ex : oe t x = .agg ⟨l⟩) (ey : oe t y = .agg ⟨m⟩) (hl : FitL ks l) (hm : FitL ks m)
    (hK : ∀ r : Bool, (r = true ↔ l = m) → K (SX.put t d (.bool (if ne = true then !r else r))) H) : HardK X N P o t H K := by
  intro w a ρ hw hsl next Q hnx
  have hvx := hsl.eval hx (by rw [ex]; rfl)
  have hvy := hsl.eval hy (by rw [ey]; rfl)
  rw [ex] at hvx
  rw [ey] at hvy
  simp only [VR, VRa] at hvx hvy
  obtain ⟨l', h1, e1⟩ := hvx
  obtain ⟨m', h2, e2⟩ := hvy
  obtain rfl := VRl.leaf_eq _ _ hl.leaf h1
  obtain rfl := VRl.leaf_eq _ _ hm.leaf h2
  obtain ⟨r, h3, h4⟩ := (eqIn_flat (w := w) n).1 T ks hf he 10000 hn _ _ hl hm
  rw [hu, hu] at h3
  have hr : (execOp a.eval o).run P w = .ok (.value (.bool (if ne = true then !r else r))) w := by
    have hgd := fun op => run_eqGuard_agg (P := P) w op T x y ⟨l'⟩ ⟨m'⟩ hg
    cases ne with
    | false =>
      have := run_eql_struct (P := P) w T ⟨l'⟩ ⟨m'⟩
      rw [h3] at this
      simp [execOp, ho, e1, e2, hgd, this]
    | true =>
      have := run_neq_struct (P := P) w T ⟨l'⟩ ⟨m'⟩
      rw [h3] at this
      simp [execOp, ho, e1, e2, hgd, this]
  unfold Oper.wp
  rw [hr]
  show next (a.put o.dst _) w
  rw [hd] at *
  have hs' : Slots N (ρ ++ []) (SX.put t d (.bool (if ne = true then !r else r))) (a.put (some d) (.bool (if ne = true then !r else r))) := by rw [List.append_nil]; exact hsl.put hN fun _ => by simp [VR]
  exact hnx w _ [] _ H (by simpa using hw) hs' (hK r h4)
end Go.SX
