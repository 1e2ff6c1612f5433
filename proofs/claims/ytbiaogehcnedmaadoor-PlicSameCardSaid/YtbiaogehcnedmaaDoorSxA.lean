/-
  A symbolic heap for walks: regions with numbers of their own in the place of blocks; what a world must hold for it. Plain definitions and lemmas over any program.
-/
import Derived.WalkKit
import Derived.WalkLawsBesides
import Derived.KernelRfl
set_option linter.unusedVariables false
set_option linter.unusedSimpArgs false
namespace Go.SX
open Go

/-! ### Region numbers and what stands behind them -/
abbrev Ren := List (Nat × Nat)
/-- From here on a number names a package-level variable; the one below it names nothing. -/
def GB : Nat := 1000000
def BAD : Nat := 999999
def Ren.at? (ρ : Ren) (r : Nat) : Option (Nat × Nat) := if GB ≤ r then some (r - GB, 0) else if r = BAD then none else ρ[r]?
/-- All that 'ρ' names 'ρ'' names too, under the number that 'θ' gives. -/
def Ren.le (θ : Nat → Nat) (ρ ρ' : Ren) : Prop := ∀ r p, ρ.at? r = some p → ρ'.at? (θ r) = some p
theorem Ren.le_append (ρ e : Ren) : Ren.le id ρ (ρ ++ e) := by
  intro r p h
  unfold Ren.at? at *
  simp only [id]
  split
  · simpa [*] using h
  · rename_i hg
    rw [if_neg hg] at h
    split
    · rename_i hb; rw [if_pos hb] at h; exact h
    · rename_i hb
      rw [if_neg hb] at h
      rw [List.getElem?_append_left (List.getElem?_eq_some_iff.1 h).1]
      exact h

/-- The address 'a' (a region's number, a place in it) is the real address 'x'. -/
def AR (ρ : Ren) (a x : Addr) : Prop := ∃ p, ρ.at? a.block = some p ∧ a.spot = none ∧ x = ⟨p.1, p.2 + a.off, none⟩

mutual
/-- The value 'v', in which regions' numbers stand for blocks, is the real value 'x'. -/
def VR (ρ : Ren) : Value → Value → Prop
  | .pointer (some a), x => ∃ b, AR ρ a b ∧ x = .pointer (some b)
  | .slice (some a) n c, x => ∃ b, AR ρ a b ∧ x = .slice (some b) n c
  | .map (some r), x => ∃ b, ρ.at? r = some (b, 0) ∧ x = .map (some b)
  | .agg cs, x => ∃ ds, VRa ρ cs ds ∧ x = .agg ds.toArray
  | .tuple cs, x => ∃ ds, VRa ρ cs ds ∧ x = .tuple ds.toArray
  | .func (.func f) a b, x => ∃ a' b', VRa ρ a a' ∧ VRa ρ b b' ∧ x = .func (.func f) a'.toArray b'.toArray
  | .func (.yield l) _ _, x => ∃ k, ρ.at? l = some (k, 0) ∧ x = .func (.yield k) #[] #[]
  | .bool b, x => x = .bool b
  | .int k n, x => x = .int k n
  | .string s, x => x = .string s
  | .pointer none, x => x = .pointer none
  | .slice none n c, x => x = .slice none n c
  | .map none, x => x = .map none
  | .nilFunc, x => x = .nilFunc
  | .nilIface, x => x = .nilIface
  | _, _ => False
def VRa (ρ : Ren) : Array Value → List Value → Prop
  | ⟨l⟩, xs => VRl ρ l xs
def VRl (ρ : Ren) : List Value → List Value → Prop
  | [], [] => True
  | v :: vs, x :: xs => VR ρ v x ∧ VRl ρ vs xs
  | _, _ => False
end

mutual
/-- Numbers turned by 'θ'. -/
def rid (θ : Nat → Nat) : Value → Value
  | .pointer (some a) => .pointer (some ⟨θ a.block, a.off, a.spot⟩)
  | .slice (some a) n c => .slice (some ⟨θ a.block, a.off, a.spot⟩) n c
  | .map (some r) => .map (some (θ r))
  | .agg cs => .agg (ridA θ cs)
  | .tuple cs => .tuple (ridA θ cs)
  | .func (.func f) a b => .func (.func f) (ridA θ a) (ridA θ b)
  | .func (.yield l) a b => .func (.yield (θ l)) a b
  | v => v
def ridA (θ : Nat → Nat) : Array Value → Array Value
  | ⟨l⟩ => ⟨ridL θ l⟩
def ridL (θ : Nat → Nat) : List Value → List Value
  | [] => []
  | v :: vs => rid θ v :: ridL θ vs
end

theorem AR.turn {θ : Nat → Nat} {ρ ρ' : Ren} (h : Ren.le θ ρ ρ') {a x : Addr} (ha : AR ρ a x) : AR ρ' ⟨θ a.block, a.off, a.spot⟩ x := by
  obtain ⟨p, h1, h2, h3⟩ := ha
  exact ⟨p, h _ _ h1, h2, h3⟩

mutual
theorem VR.turn {θ : Nat → Nat} {ρ ρ' : Ren} (hle : Ren.le θ ρ ρ') : ∀ (v x : Value), VR ρ v x → VR ρ' (rid θ v) x
  | .pointer (some a), x, h => by simp only [VR, rid] at *; obtain ⟨b, h1, h2⟩ := h; exact ⟨b, h1.turn hle, h2⟩
  | .slice (some a) n c, x, h => by simp only [VR, rid] at *; obtain ⟨b, h1, h2⟩ := h; exact ⟨b, h1.turn hle, h2⟩
  | .map (some r), x, h => by simp only [VR, rid] at *; obtain ⟨b, h1, h2⟩ := h; exact ⟨b, hle _ _ h1, h2⟩
  | .agg cs, x, h => by simp only [VR, rid] at *; obtain ⟨ds, h1, h2⟩ := h; exact ⟨ds, VRa.turn hle cs ds h1, h2⟩
  | .tuple cs, x, h => by simp only [VR, rid] at *; obtain ⟨ds, h1, h2⟩ := h; exact ⟨ds, VRa.turn hle cs ds h1, h2⟩
  | .func (.func f) a b, x, h => by simp only [VR, rid] at *; obtain ⟨a', b', h1, h2, h3⟩ := h; exact ⟨a', b', VRa.turn hle a a' h1, VRa.turn hle b b' h2, h3⟩
  | .func (.yield l) a b, x, h => by simp only [VR, rid] at *; obtain ⟨k, h1, h2⟩ := h; exact ⟨k, hle _ _ h1, h2⟩
  | .bool b, x, h => by simpa only [VR, rid] using h
  | .int k n, x, h => by simpa only [VR, rid] using h
  | .string s, x, h => by simpa only [VR, rid] using h
  | .pointer none, x, h => by simpa only [VR, rid] using h
  | .slice none n c, x, h => by simpa only [VR, rid] using h
  | .map none, x, h => by simpa only [VR, rid] using h
  | .nilFunc, x, h => by simpa only [VR, rid] using h
  | .nilIface, x, h => by simpa only [VR, rid] using h
  | .float k n, x, h => by simp only [VR] at h
  | .complex k a b, x, h => by simp only [VR] at h
  | .chan r, x, h => by simp only [VR] at h
  | .iface t v, x, h => by simp only [VR] at h
  | .func (.method n) a b, x, h => by simp only [VR] at h
  | .func (.methodOf t n) a b, x, h => by simp only [VR] at h
  | .func (.via t p f q) a b, x, h => by simp only [VR] at h
theorem VRa.turn {θ : Nat → Nat} {ρ ρ' : Ren} (hle : Ren.le θ ρ ρ') : ∀ (v : Array Value) (x : List Value), VRa ρ v x → VRa ρ' (ridA θ v) x
  | ⟨l⟩, xs, h => by simp only [VRa, ridA] at *; exact VRl.turn hle l xs h
theorem VRl.turn {θ : Nat → Nat} {ρ ρ' : Ren} (hle : Ren.le θ ρ ρ') : ∀ (v x : List Value), VRl ρ v x → VRl ρ' (ridL θ v) x
  | [], [], h => by simp only [VRl, ridL] at *
  | v :: vs, x :: xs, h => by simp only [VRl, ridL] at *; exact ⟨VR.turn hle v x h.1, VRl.turn hle vs xs h.2⟩
  | [], x :: xs, h => by simp only [VRl] at h
  | v :: vs, [], h => by simp only [VRl] at h
end

mutual
theorem rid_id : ∀ (v : Value), rid id v = v
  | .pointer (some a) => by simp only [rid, id]
  | .slice (some a) n c => by simp only [rid, id]
  | .map (some r) => by simp only [rid, id]
  | .agg cs => by simp only [rid, ridA_id cs]
  | .tuple cs => by simp only [rid, ridA_id cs]
  | .func (.func f) a b => by simp only [rid, ridA_id a, ridA_id b]
  | .func (.yield l) a b => by simp only [rid, id]
  | .bool b => by simp only [rid]
  | .int k n => by simp only [rid]
  | .string s => by simp only [rid]
  | .pointer none => by simp only [rid]
  | .slice none n c => by simp only [rid]
  | .map none => by simp only [rid]
  | .nilFunc => by simp only [rid]
  | .nilIface => by simp only [rid]
  | .float k n => by simp only [rid]
  | .complex k a b => by simp only [rid]
  | .chan r => by simp only [rid]
  | .iface t v => by simp only [rid]
  | .func (.method n) a b => by simp only [rid]
  | .func (.methodOf t n) a b => by simp only [rid]
  | .func (.via t p f q) a b => by simp only [rid]
theorem ridA_id : ∀ (v : Array Value), ridA id v = v
  | ⟨l⟩ => by simp only [ridA, ridL_id l]
theorem ridL_id : ∀ (v : List Value), ridL id v = v
  | [] => by simp only [ridL]
  | v :: vs => by simp only [ridL, rid_id v, ridL_id vs]
end
theorem VR.mono {ρ : Ren} {v x : Value} (h : VR ρ v x) (e : Ren) : VR (ρ ++ e) v x := by
  have := VR.turn (Ren.le_append ρ e) v x h; rwa [rid_id] at this
theorem VRl.mono {ρ : Ren} {v x : List Value} (h : VRl ρ v x) (e : Ren) : VRl (ρ ++ e) v x := by
  have := VRl.turn (Ren.le_append ρ e) v x h; rwa [ridL_id] at this
theorem VRl.length {ρ : Ren} : ∀ {v x : List Value}, VRl ρ v x → v.length = x.length
  | [], [], _ => rfl
  | v :: vs, x :: xs, h => by simp only [VRl] at h; simp [VRl.length h.2]
  | [], x :: xs, h => by simp only [VRl] at h
  | v :: vs, [], h => by simp only [VRl] at h
theorem VRl.get {ρ : Ren} : ∀ {v x : List Value}, VRl ρ v x → ∀ {i : Nat} {a : Value}, v[i]? = some a → ∃ b, x[i]? = some b ∧ VR ρ a b
  | [], [], _, _, _, h => by simp at h
  | v :: vs, x :: xs, h, 0, a, e => by simp only [VRl] at h; simp at e; subst e; exact ⟨x, by simp, h.1⟩
  | v :: vs, x :: xs, h, i + 1, a, e => by simp only [VRl] at h; simp at e; simpa using VRl.get h.2 e
  | [], x :: xs, h, _, _, _ => by simp only [VRl] at h
  | v :: vs, [], h, _, _, _ => by simp only [VRl] at h
theorem VRl.set {ρ : Ren} : ∀ {v x : List Value}, VRl ρ v x → ∀ {i : Nat} {a b : Value}, VR ρ a b → VRl ρ (v.set i a) (x.set i b)
  | [], [], _, _, _, _, _ => by simp [VRl]
  | v :: vs, x :: xs, h, 0, a, b, e => by simp only [VRl] at h; simp only [List.set_cons_zero, VRl]; exact ⟨e, h.2⟩
  | v :: vs, x :: xs, h, i + 1, a, b, e => by simp only [VRl] at h; simp only [List.set_cons_succ, VRl]; exact ⟨h.1, VRl.set h.2 e⟩
  | [], x :: xs, h, _, _, _, _ => by simp only [VRl] at h
  | v :: vs, [], h, _, _, _, _ => by simp only [VRl] at h
theorem VRl.append {ρ : Ren} : ∀ {v x v' x' : List Value}, VRl ρ v x → VRl ρ v' x' → VRl ρ (v ++ v') (x ++ x')
  | [], [], _, _, _, h => h
  | v :: vs, x :: xs, _, _, h, h' => by simp only [VRl] at h; simp only [List.cons_append, VRl]; exact ⟨h.1, VRl.append h.2 h'⟩
  | [], x :: xs, _, _, h, _ => by simp only [VRl] at h
  | v :: vs, [], _, _, h, _ => by simp only [VRl] at h
theorem VRl.drop {ρ : Ren} : ∀ {v x : List Value}, VRl ρ v x → ∀ (n : Nat), VRl ρ (v.drop n) (x.drop n)
  | [], [], _, _ => by simp [VRl]
  | v :: vs, x :: xs, h, 0 => h
  | v :: vs, x :: xs, h, n + 1 => by simp only [VRl] at h; simpa using VRl.drop h.2 n
  | [], x :: xs, h, _ => by simp only [VRl] at h
  | v :: vs, [], h, _ => by simp only [VRl] at h
theorem VRl.take {ρ : Ren} : ∀ {v x : List Value}, VRl ρ v x → ∀ (n : Nat), VRl ρ (v.take n) (x.take n)
  | [], [], _, _ => by simp [VRl]
  | v :: vs, x :: xs, h, 0 => by simp [VRl]
  | v :: vs, x :: xs, h, n + 1 => by simp only [VRl] at h; simp only [List.take_succ_cons, VRl]; exact ⟨h.1, VRl.take h.2 n⟩
  | [], x :: xs, h, _ => by simp only [VRl] at h
  | v :: vs, [], h, _ => by simp only [VRl] at h

mutual
/-- A value without addresses. -/
def leaf : Value → Bool
  | .bool _ | .int _ _ | .string _ | .pointer none | .slice none _ _ | .map none | .nilFunc | .nilIface => true
  | .agg cs => leafA cs
  | .tuple cs => leafA cs
  | _ => false
def leafA : Array Value → Bool
  | ⟨l⟩ => leafL l
def leafL : List Value → Bool
  | [] => true
  | v :: vs => leaf v && leafL vs
end
theorem leafL_iff : ∀ {l : List Value}, leafL l = true ↔ ∀ v ∈ l, leaf v = true
  | [] => by simp [leafL]
  | v :: vs => by simp [leafL, leafL_iff (l := vs)]
mutual
theorem VR.leaf {ρ : Ren} : ∀ (v : Value), SX.leaf v = true → VR ρ v v
  | .bool b, h => by simp only [VR]
  | .int k n, h => by simp only [VR]
  | .string s, h => by simp only [VR]
  | .pointer none, h => by simp only [VR]
  | .slice none n c, h => by simp only [VR]
  | .map none, h => by simp only [VR]
  | .nilFunc, h => by simp only [VR]
  | .nilIface, h => by simp only [VR]
  | .agg ⟨l⟩, h => by simp only [SX.leaf, SX.leafA] at h; simp only [VR, VRa]; exact ⟨l, VRl.leaf l h, rfl⟩
  | .tuple ⟨l⟩, h => by simp only [SX.leaf, SX.leafA] at h; simp only [VR, VRa]; exact ⟨l, VRl.leaf l h, rfl⟩
  | .pointer (some a), h => by simp [SX.leaf] at h
  | .slice (some a) n c, h => by simp [SX.leaf] at h
  | .map (some r), h => by simp [SX.leaf] at h
  | .func f a b, h => by simp [SX.leaf] at h
  | .float k n, h => by simp [SX.leaf] at h
  | .complex k a b, h => by simp [SX.leaf] at h
  | .chan r, h => by simp [SX.leaf] at h
  | .iface t v, h => by simp [SX.leaf] at h
theorem VRl.leaf {ρ : Ren} : ∀ (l : List Value), SX.leafL l = true → VRl ρ l l
  | [], _ => by simp only [VRl]
  | v :: vs, h => by simp only [SX.leafL, Bool.and_eq_true] at h; simp only [VRl]; exact ⟨VR.leaf v h.1, VRl.leaf vs h.2⟩
end
mutual
theorem VR.leaf_eq {ρ : Ren} : ∀ (v x : Value), SX.leaf v = true → VR ρ v x → x = v
  | .bool b, x, h, hv => by simpa only [VR] using hv
  | .int k n, x, h, hv => by simpa only [VR] using hv
  | .string s, x, h, hv => by simpa only [VR] using hv
  | .pointer none, x, h, hv => by simpa only [VR] using hv
  | .slice none n c, x, h, hv => by simpa only [VR] using hv
  | .map none, x, h, hv => by simpa only [VR] using hv
  | .nilFunc, x, h, hv => by simpa only [VR] using hv
  | .nilIface, x, h, hv => by simpa only [VR] using hv
  | .agg ⟨l⟩, x, h, hv => by
    simp only [SX.leaf, SX.leafA] at h; simp only [VR, VRa] at hv
    obtain ⟨ds, h1, h2⟩ := hv
    rw [h2, VRl.leaf_eq l ds h h1]
  | .tuple ⟨l⟩, x, h, hv => by
    simp only [SX.leaf, SX.leafA] at h; simp only [VR, VRa] at hv
    obtain ⟨ds, h1, h2⟩ := hv
    rw [h2, VRl.leaf_eq l ds h h1]
  | .pointer (some a), _, h, _ => by simp [SX.leaf] at h
  | .slice (some a) n c, _, h, _ => by simp [SX.leaf] at h
  | .map (some r), _, h, _ => by simp [SX.leaf] at h
  | .func f a b, _, h, _ => by simp [SX.leaf] at h
  | .float k n, _, h, _ => by simp [SX.leaf] at h
  | .complex k a b, _, h, _ => by simp [SX.leaf] at h
  | .chan r, _, h, _ => by simp [SX.leaf] at h
  | .iface t v, _, h, _ => by simp [SX.leaf] at h
theorem VRl.leaf_eq {ρ : Ren} : ∀ (l x : List Value), SX.leafL l = true → VRl ρ l x → x = l
  | [], [], _, _ => rfl
  | v :: vs, x :: xs, h, hv => by
    simp only [SX.leafL, Bool.and_eq_true] at h; simp only [VRl] at hv
    rw [VR.leaf_eq v x h.1 hv.1, VRl.leaf_eq vs xs h.2 hv.2]
  | [], x :: xs, _, h => by simp only [VRl] at h
  | v :: vs, [], _, h => by simp only [VRl] at h
end
mutual
theorem rid_leaf {θ : Nat → Nat} : ∀ (v : Value), leaf v = true → rid θ v = v
  | .bool b, h => by simp only [rid]
  | .int k n, h => by simp only [rid]
  | .string s, h => by simp only [rid]
  | .pointer none, h => by simp only [rid]
  | .slice none n c, h => by simp only [rid]
  | .map none, h => by simp only [rid]
  | .nilFunc, h => by simp only [rid]
  | .nilIface, h => by simp only [rid]
  | .agg ⟨l⟩, h => by simp only [leaf, leafA] at h; simp only [rid, ridA, ridL_leaf l h]
  | .tuple ⟨l⟩, h => by simp only [leaf, leafA] at h; simp only [rid, ridA, ridL_leaf l h]
  | .pointer (some a), h => by simp [leaf] at h
  | .slice (some a) n c, h => by simp [leaf] at h
  | .map (some r), h => by simp [leaf] at h
  | .func f a b, h => by simp [leaf] at h
  | .float k n, h => by simp [leaf] at h
  | .complex k a b, h => by simp [leaf] at h
  | .chan r, h => by simp [leaf] at h
  | .iface t v, h => by simp [leaf] at h
theorem ridL_leaf {θ : Nat → Nat} : ∀ (l : List Value), leafL l = true → ridL θ l = l
  | [], _ => by simp only [ridL]
  | v :: vs, h => by simp only [leafL, Bool.and_eq_true] at h; simp only [ridL, rid_leaf v h.1, ridL_leaf vs h.2]
end
theorem leafL_append {a b : List Value} : leafL (a ++ b) = (leafL a && leafL b) := by
  rw [Bool.eq_iff_iff]; simp [leafL_iff, or_imp, forall_and]
theorem leafL_take {a : List Value} (n : Nat) (h : leafL a = true) : leafL (a.take n) = true := leafL_iff.2 fun v hv => leafL_iff.1 h v (List.mem_of_mem_take hv)
theorem leafL_drop {a : List Value} (n : Nat) (h : leafL a = true) : leafL (a.drop n) = true := leafL_iff.2 fun v hv => leafL_iff.1 h v (List.mem_of_mem_drop hv)
theorem leafL_set {a : List Value} {v : Value} (n : Nat) (h : leafL a = true) (hv : leaf v = true) : leafL (a.set n v) = true :=
  leafL_iff.2 fun u hu => by
    rcases List.mem_or_eq_of_mem_set hu with h' | rfl
    · exact leafL_iff.1 h u h'
    · exact hv
end Go.SX
