/-
  The document's plic: its cells, told from the same state.
-/
import Derived.Test.YtbiaogehcnedmaaDoorPlF
set_option linter.unusedVariables false
set_option linter.unusedSimpArgs false
set_option maxRecDepth 100000
namespace Go.Proofs.YtbiaogehcnedmaaDoor
open Go Go.SX
/-- Rows of cells, one behind the other. -/
def rows (f : Nat → List Value) : Nat → List Value
  | 0 => []
  | n + 1 => rows f n ++ f n
theorem rows_length {f : Nat → List Value} {m : Nat} (hm : ∀ i, (f i).length = m) : ∀ n, (rows f n).length = n * m
  | 0 => by simp [rows]
  | n + 1 => by rw [rows, List.length_append, rows_length hm n, hm, Nat.add_mul, Nat.one_mul]
theorem rows_get {f : Nat → List Value} {m : Nat} (hm : ∀ i, (f i).length = m) : ∀ {n i k : Nat}, i < n → k < m → (rows f n)[i * m + k]? = (f i)[k]?
  | 0, _, _, h, _ => by omega
  | n + 1, i, k, h, hk => by
    rw [rows]
    by_cases hi : i < n
    · have : (i + 1) * m ≤ n * m := Nat.mul_le_mul_right _ hi
      rw [Nat.add_mul, Nat.one_mul] at this
      rw [List.getElem?_append_left (by rw [rows_length hm]; omega), rows_get hm hi hk]
    · obtain rfl : i = n := by omega
      rw [List.getElem?_append_right (by rw [rows_length hm]; omega), rows_length hm, Nat.add_sub_cancel_left]
theorem rows_congr {f g : Nat → List Value} : ∀ {n : Nat}, (∀ i, i < n → f i = g i) → rows f n = rows g n
  | 0, _ => rfl
  | n + 1, h => by rw [rows, rows, rows_congr fun i hi => h i (by omega), h n (by omega)]
theorem rows_set {f g : Nat → List Value} {m : Nat} (hm : ∀ i, (f i).length = m) : ∀ {n i k : Nat} {v : Value}, i < n → k < m → (∀ j, j < n → g j = if j = i then (f i).set k v else f j) → (rows f n).set (i * m + k) v = rows g n
  | 0, _, _, _, h, _, _ => by omega
  | n + 1, i, k, v, h, hk, hg => by
    rw [rows, rows]
    by_cases hi : i < n
    · have : (i + 1) * m ≤ n * m := Nat.mul_le_mul_right _ hi
      rw [Nat.add_mul, Nat.one_mul] at this
      rw [List.set_append_left _ _ (by rw [rows_length hm]; omega), rows_set hm hi hk fun j hj => hg j (by omega), hg n (by omega), if_neg (by omega)]
    · obtain rfl : i = n := by omega
      rw [List.set_append_right _ _ (by rw [rows_length hm]; omega), rows_length hm, Nat.add_sub_cancel_left, hg i (by omega), if_pos rfl]
      congr 1
      exact rows_congr fun j hj => by rw [hg j (by omega), if_neg (by omega)]
theorem rows_leaf {f : Nat → List Value} (hf : ∀ i, leafL (f i) = true) : ∀ n, leafL (rows f n) = true
  | 0 => rfl
  | n + 1 => by rw [rows, leafL_append, rows_leaf hf n, hf]; rfl
theorem oneL_append : ∀ {a b : List Value}, oneL (a ++ b) = (oneL a && oneL b)
  | [], b => rfl
  | x :: a, b => by simp only [List.cons_append, oneL, oneL_append, Bool.and_assoc]
theorem rows_one {f : Nat → List Value} (hf : ∀ i, oneL (f i) = true) : ∀ n, oneL (rows f n) = true
  | 0 => rfl
  | n + 1 => by rw [rows, oneL_append, rows_one hf n, hf]; rfl
def setBit (n i : Nat) (b : Bool) : Nat := if b then n ||| 2 ^ i else ndiff n (2 ^ i)
theorem testBit_setBit (n i : Nat) (b : Bool) (j : Nat) : (setBit n i b).testBit j = if j = i then b else n.testBit j := by
  unfold setBit
  cases b
  · simp only [Bool.false_eq_true, if_false, testBit_ndiff, testBit_pow]
    by_cases h : j = i
    · simp [h]
    · have : ¬ i = j := fun e => h e.symm
      simp [h, this]
  · simp only [if_true, Nat.testBit_or, testBit_pow]
    by_cases h : j = i
    · simp [h]
    · have : ¬ i = j := fun e => h e.symm
      simp [h, this]
theorem setBit_lt {n i : Nat} (b : Bool) (hn : n < 2 ^ 32) (hi : i < 32) : setBit n i b < 2 ^ 32 := by
  unfold setBit
  split
  · exact Nat.or_lt_two_pow hn (pow32 hi)
  · exact ndiff_le _ _ hn
def RR (p : PS) (i : Nat) : List Value := [.int .u64 (p.prio.getD i 0 : Nat), .bool (p.up.testBit i), .bool (p.pend.testBit i), .bool (p.busy.testBit i), .bool (p.on0.testBit i), .bool (p.on1.testBit i)]
def RC (p : PS) : List Value := rows (RR p) 32 ++ [.int .u64 p.f0, .int .u64 p.f1]
def RP (p : PS) : SB := .flat (RC p) 194 true
theorem RR_len (p : PS) : ∀ i, (RR p i).length = 6 := fun _ => rfl
theorem RC_length (p : PS) : (RC p).length = 194 := by rw [RC, List.length_append, rows_length (RR_len p)]; rfl
theorem RC_leaf (p : PS) : leafL (RC p) = true := by rw [RC, leafL_append, rows_leaf (fun i => rfl)]; rfl
theorem RC_one (p : PS) : oneL (RC p) = true := by rw [RC, oneL_append, rows_one (fun i => rfl)]; rfl
theorem RP_rid (θ : Nat → Nat) (p : PS) : SX.ridB θ (RP p) = RP p := rfl
theorem RC_ridL (θ : Nat → Nat) (p : PS) : ridL θ (RC p) = RC p := ridL_leaf _ (RC_leaf p)
attribute [push_cast] RP_rid RC_ridL
theorem mk_RC (p : PS) : mk (RC p) = RP p := by rw [mk, RC_leaf, RC_length]; rfl
theorem flat_RP (p : PS) : SB.flat (RC p) 194 true = RP p := rfl
theorem RP_all (p : PS) : rdn (some (RP p)) 0 194 = some (RC p) := by
  simp only [RP, rdn]
  rw [if_pos (by rw [RC_length]; omega), List.drop_zero, List.take_of_length_le (by rw [RC_length]; omega)]
theorem RP_wall (p q : PS) : wrt (some (RP q)) 0 (RC p) = some (RP p) := by
  rw [RP, wrt_all (by rw [RC_length, RC_length]) (RC_one p) (RC_leaf p)]; rfl
theorem RP_row (p : PS) {i k : Nat} (hi : i < 32) (hk : k < 6) : rd (some (RP p)) (i * 6 + k) = (RR p i)[k]? := by
  simp only [RP, rd, RC]
  have : i * 6 + k < 32 * 6 := by omega
  rw [List.getElem?_append_left (by rw [rows_length (RR_len p)]; exact this), rows_get (RR_len p) hi hk]
theorem RP_0 (p : PS) {i : Nat} (hi : i < 32) : rd (some (RP p)) (i * 6) = some (.int .u64 (p.prio.getD i 0 : Nat)) := RP_row p hi (k := 0) (by omega)
theorem RP_1 (p : PS) {i : Nat} (hi : i < 32) : rd (some (RP p)) (i * 6 + 1) = some (.bool (p.up.testBit i)) := RP_row p hi (by omega)
theorem RP_2 (p : PS) {i : Nat} (hi : i < 32) : rd (some (RP p)) (i * 6 + 2) = some (.bool (p.pend.testBit i)) := RP_row p hi (by omega)
theorem RP_3 (p : PS) {i : Nat} (hi : i < 32) : rd (some (RP p)) (i * 6 + 3) = some (.bool (p.busy.testBit i)) := RP_row p hi (by omega)
theorem RP_4 (p : PS) {i : Nat} (hi : i < 32) : rd (some (RP p)) (i * 6 + 4) = some (.bool (p.on0.testBit i)) := RP_row p hi (by omega)
theorem RP_5 (p : PS) {i : Nat} (hi : i < 32) : rd (some (RP p)) (i * 6 + 4 + 1) = some (.bool (p.on1.testBit i)) := RP_row p hi (k := 5) (by omega)
theorem RC_tail (p : PS) (j : Nat) : (RC p)[192 + j]? = [Value.int .u64 p.f0, .int .u64 p.f1][j]? := by
  rw [RC, List.getElem?_append_right (by rw [rows_length (RR_len p)]; omega), rows_length (RR_len p)]
  congr 1; omega
theorem RP_f0 (p : PS) : rd (some (RP p)) 192 = some (.int .u64 p.f0) := RC_tail p 0
theorem RP_f1 (p : PS) : rd (some (RP p)) 193 = some (.int .u64 p.f1) := RC_tail p 1
theorem RP_w {p q : PS} {i k : Nat} {v : Value} (hi : i < 32) (hk : k < 6) (h1 : v.oneCell' = true) (h2 : leaf v = true) (hf : q.f0 = p.f0 ∧ q.f1 = p.f1) (hg : ∀ j, j < 32 → RR q j = if j = i then (RR p i).set k v else RR p j) : wrt (some (RP p)) (i * 6 + k) [v] = some (RP q) := by
  rw [RP, wrt1 (by rw [RC_length]; omega) h1 h2, RC, List.set_append_left _ _ (by rw [rows_length (RR_len p)]; omega), rows_set (RR_len p) hi hk hg, RP, RC, hf.1, hf.2]
theorem RP_w0 (p : PS) (h : p.ok) {i : Nat} (hi : i < 32) (n : Nat) : wrt (some (RP p)) (i * 6) [.int .u64 n] = some (RP { p with prio := p.prio.set i n }) :=
  RP_w (k := 0) hi (by omega) rfl rfl ⟨rfl, rfl⟩ fun j _ => by
    simp only [RR]
    rw [getD_set _ _ _ _ (by rw [h.len]; exact hi)]
    by_cases e : j = i
    · subst e; simp
    · rw [if_neg (fun h => e h.symm), if_neg e]
theorem RP_w1 (p : PS) {i : Nat} (hi : i < 32) (b : Bool) : wrt (some (RP p)) (i * 6 + 1) [.bool b] = some (RP { p with up := setBit p.up i b }) :=
  RP_w hi (by omega) rfl rfl ⟨rfl, rfl⟩ fun j _ => by
    simp only [RR, testBit_setBit]
    split <;> rename_i e <;> first | (subst e; rfl) | rfl
theorem RP_w2 (p : PS) {i : Nat} (hi : i < 32) (b : Bool) : wrt (some (RP p)) (i * 6 + 2) [.bool b] = some (RP { p with pend := setBit p.pend i b }) :=
  RP_w hi (by omega) rfl rfl ⟨rfl, rfl⟩ fun j _ => by
    simp only [RR, testBit_setBit]
    split <;> rename_i e <;> first | (subst e; rfl) | rfl
theorem RP_w3 (p : PS) {i : Nat} (hi : i < 32) (b : Bool) : wrt (some (RP p)) (i * 6 + 3) [.bool b] = some (RP { p with busy := setBit p.busy i b }) :=
  RP_w hi (by omega) rfl rfl ⟨rfl, rfl⟩ fun j _ => by
    simp only [RR, testBit_setBit]
    split <;> rename_i e <;> first | (subst e; rfl) | rfl
theorem RP_w4 (p : PS) {i : Nat} (hi : i < 32) (b : Bool) : wrt (some (RP p)) (i * 6 + 4) [.bool b] = some (RP { p with on0 := setBit p.on0 i b }) :=
  RP_w hi (by omega) rfl rfl ⟨rfl, rfl⟩ fun j _ => by
    simp only [RR, testBit_setBit]
    split <;> rename_i e <;> first | (subst e; rfl) | rfl
theorem RP_w5 (p : PS) {i : Nat} (hi : i < 32) (b : Bool) : wrt (some (RP p)) (i * 6 + 4 + 1) [.bool b] = some (RP { p with on1 := setBit p.on1 i b }) :=
  RP_w (k := 5) hi (by omega) rfl rfl ⟨rfl, rfl⟩ fun j _ => by
    simp only [RR, testBit_setBit]
    split <;> rename_i e <;> first | (subst e; rfl) | rfl
theorem RP_wf0 (p : PS) (n : Nat) : wrt (some (RP p)) 192 [.int .u64 n] = some (RP { p with f0 := n }) := by
  rw [RP, wrt1 (by rw [RC_length]; omega) rfl rfl, RC, List.set_append_right _ _ (by rw [rows_length (RR_len p)]; omega), rows_length (RR_len p)]; rfl
theorem RP_wf1 (p : PS) (n : Nat) : wrt (some (RP p)) 193 [.int .u64 n] = some (RP { p with f1 := n }) := by
  rw [RP, wrt1 (by rw [RC_length]; omega) rfl rfl, RC, List.set_append_right _ _ (by rw [rows_length (RR_len p)]; omega), rows_length (RR_len p)]; rfl
/-- What no plic's state parts from. -/
structure PS.good (p : PS) : Prop extends took : p.ok where
  b0 : p.on0.testBit 0 = false
  b1 : p.on1.testBit 0 = false
  p0 : p.prio.getD 0 0 = 0

/-! ### The best, found from either end -/
def IsB (act : Nat → Bool) (pr : Nat → Nat) (lo hi b : Nat) : Prop :=
  (b = 0 ∧ ∀ j, lo ≤ j → j < hi → act j = true → pr j = 0) ∨ (lo ≤ b ∧ b < hi ∧ act b = true ∧ 0 < pr b ∧ ∀ j, lo ≤ j → j < hi → act j = true → pr j ≤ pr b ∧ (j < b → pr j < pr b))
theorem IsB.unique {act : Nat → Bool} {pr : Nat → Nat} {lo hi b c : Nat} (h1 : 0 < lo) (hb : IsB act pr lo hi b) (hc : IsB act pr lo hi c) : b = c := by
  rcases hb with ⟨rfl, h2⟩ | ⟨h2, h3, h4, h5, h6⟩
  · rcases hc with ⟨rfl, _⟩ | ⟨g2, g3, g4, g5, g6⟩
    · rfl
    · have := h2 c g2 g3 g4; omega
  · rcases hc with ⟨rfl, g2⟩ | ⟨g2, g3, g4, g5, g6⟩
    · have := g2 b h2 h3 h4; omega
    · have a1 := h6 c g2 g3 g4
      have a2 := g6 b h2 h3 h4
      rcases Nat.lt_trichotomy b c with h | h | h
      · have := a2.2 h; omega
      · exact h
      · have := a1.2 h; omega
theorem bestL_append (pr : List Nat) : ∀ {l m : List Nat} {b : Nat}, bestL pr b (l ++ m) = bestL pr (bestL pr b l) m
  | [], m, b => rfl
  | s :: l, m, b => by simp only [List.cons_append, bestL]; exact bestL_append pr
theorem bestL_is {pr : List Nat} {act : Nat → Bool} (h0 : pr.getD 0 0 = 0) (ha : act 0 = false) : ∀ n, IsB act (fun j => pr.getD j 0) 1 n (bestL pr 0 ((List.range n).filter act))
  | 0 => .inl ⟨rfl, fun j _ h => by omega⟩
  | n + 1 => by
    have ih := bestL_is h0 ha n
    rw [List.range_succ, List.filter_append, bestL_append]
    generalize bestL pr 0 ((List.range n).filter act) = b at *
    cases hn : act n with
    | false =>
      have : [n].filter act = [] := by simp [hn]
      rw [this]
      simp only [bestL]
      rcases ih with ⟨rfl, h⟩ | ⟨h2, h3, h4, h5, h6⟩
      · refine .inl ⟨rfl, fun j h1 h2 h3 => ?_⟩
        by_cases e : j = n
        · subst e; rw [hn] at h3; cases h3
        · exact h j h1 (by omega) h3
      · refine .inr ⟨h2, by omega, h4, h5, fun j h1 h7 h8 => ?_⟩
        by_cases e : j = n
        · subst e; rw [hn] at h8; cases h8
        · exact h6 j h1 (by omega) h8
    | true =>
      have : [n].filter act = [n] := by simp [hn]
      have n0 : n ≠ 0 := by rintro rfl; rw [ha] at hn; cases hn
      rw [this]
      simp only [bestL]
      rcases ih with ⟨rfl, h⟩ | ⟨h2, h3, h4, h5, h6⟩
      · split
        · rename_i hle
          refine .inl ⟨rfl, fun j h1 h2 h3 => ?_⟩
          by_cases e : j = n
          · subst e; show pr.getD j 0 = 0; omega
          · exact h j h1 (by omega) h3
        · rename_i hle
          refine .inr ⟨by omega, by omega, hn, by simp only; omega, fun j h1 h2 h3 => ?_⟩
          by_cases e : j = n
          · subst e; exact ⟨Nat.le_refl _, fun h => absurd h (Nat.lt_irrefl _)⟩
          · have := h j h1 (by omega) h3
            simp only at this ⊢
            omega
      · simp only at h5 h6
        split
        · rename_i hle
          refine .inr ⟨h2, by omega, h4, h5, fun j h1 h7 h8 => ?_⟩
          by_cases e : j = n
          · subst e; exact ⟨hle, fun h => by omega⟩
          · exact h6 j h1 (by omega) h8
        · rename_i hle
          refine .inr ⟨by omega, by omega, hn, by simp only; omega, fun j h1 h7 h8 => ?_⟩
          by_cases e : j = n
          · subst e; exact ⟨Nat.le_refl _, fun h => absurd h (Nat.lt_irrefl _)⟩
          · have := h6 j h1 (by omega) h8
            simp only at this ⊢
            omega
theorem IsB.down {act : Nat → Bool} {pr : Nat → Nat} {i hi b : Nat} (h1 : 0 < i) (hi' : i < hi) (h : IsB act pr (i + 1) hi b) : IsB act pr i hi (if act i && decide (0 < pr i) && (decide (b = 0) || decide (pr b ≤ pr i)) then i else b) := by
  split
  · rename_i hc
    simp only [Bool.and_eq_true, Bool.or_eq_true, decide_eq_true_eq] at hc
    obtain ⟨⟨ha, hp⟩, hb⟩ := hc
    refine .inr ⟨Nat.le_refl _, hi', ha, hp, fun j g1 g2 g3 => ?_⟩
    by_cases e : j = i
    · subst e; exact ⟨Nat.le_refl _, fun h => absurd h (Nat.lt_irrefl _)⟩
    · rcases h with ⟨rfl, h⟩ | ⟨h2, h3, h4, h5, h6⟩
      · have := h j (by omega) g2 g3; exact ⟨by omega, fun h => by omega⟩
      · have := h6 j (by omega) g2 g3
        exact ⟨by omega, fun h => by omega⟩
  · rename_i hc
    simp only [Bool.and_eq_true, Bool.or_eq_true, decide_eq_true_eq] at hc
    rcases h with ⟨rfl, h⟩ | ⟨h2, h3, h4, h5, h6⟩
    · refine .inl ⟨rfl, fun j g1 g2 g3 => ?_⟩
      by_cases e : j = i
      · subst e
        by_cases hp : 0 < pr j
        · exact absurd ⟨⟨g3, hp⟩, .inl rfl⟩ hc
        · omega
      · exact h j (by omega) g2 g3
    · refine .inr ⟨by omega, h3, h4, h5, fun j g1 g2 g3 => ?_⟩
      by_cases e : j = i
      · subst e
        by_cases hp : 0 < pr j
        · have : ¬ pr b ≤ pr j := fun q => hc ⟨⟨g3, hp⟩, .inr q⟩
          omega
        · omega
      · exact h6 j (by omega) g2 g3
theorem PS.best_is {p : PS} (h : p.good) {c : Int} (hc : c = 0 ∨ c = 1) : IsB (fun j => p.pend.testBit j && (p.on c).testBit j) (fun j => p.prio.getD j 0) 1 32 (p.best c) := by
  have e : p.best c = bestL p.prio 0 (ones (p.pend &&& p.on c)) := by rw [PS.best, if_pos (by omega)]
  have hb : (p.on c).testBit 0 = false := by
    unfold PS.on
    split
    · exact h.b0
    · exact h.b1
  have := bestL_is (act := fun j => p.pend.testBit j && (p.on c).testBit j) h.p0 (by simp [hb]) 64
  have e2 : (List.range 64).filter (fun j => p.pend.testBit j && (p.on c).testBit j) = ones (p.pend &&& p.on c) := by
    unfold ones
    congr 1
    funext j
    rw [Nat.testBit_and]
  rw [e2, ← e] at this
  have h32 : ∀ j, (p.pend.testBit j && (p.on c).testBit j) = true → j < 32 := by
    intro j hj
    by_cases h3 : j < 32
    · exact h3
    · rw [bit_out h.pend (by omega)] at hj; simp at hj
  rcases this with ⟨e0, h1⟩ | ⟨h1, h2, h3, h4, h5⟩
  · exact .inl ⟨e0, fun j g1 g2 g3 => h1 j g1 (by omega) g3⟩
  · exact .inr ⟨h1, h32 _ h3, h3, h4, fun j g1 g2 g3 => h5 j g1 (by omega) g3⟩
end Go.Proofs.YtbiaogehcnedmaaDoor
