/- Short ways: scalars, loads out of slices. -/
import Derived.Test.YtiomjekkmjinbaaAb41
namespace Go.Ab
open Go

section
variable {P : Program} {m : Mem} {n : Nat}

/-- A call that hands back a constant and leaves what was there: exactly so, and with nothing new. -/
theorem Wc.scalar {f : FuncId} {args : List Value} {u : Value} {Q : Value → Mem → Nat → Prop} (h : Wc P f args m n fun v m' n' => v = u ∧ Le m n m' n') (hu : blw Dm.none u = true) (hq : Q u m n) : Wc P f args m n Q :=
  Wc.pure (R := fun v => v = u) (h.mono fun v m' n' ⟨hv, hl⟩ => ⟨⟨hv, by rw [hv]; exact hu⟩, hl.same⟩) fun v hv => by rw [hv]; exact hq
theorem W.scalar {fr : AFrame} {u : Value} {Q : Value → Mem → Nat → Prop} (h : W P fr m n fun v m' n' => v = u ∧ Le m n m' n') (hu : blw Dm.none u = true) (hq : Q u m n) : W P fr m n Q :=
  W.pure (R := fun v => v = u) (h.mono fun v m' n' ⟨hv, hl⟩ => ⟨⟨hv, by rw [hv]; exact hu⟩, hl.same⟩) fun v hv => by rw [hv]; exact hq

theorem liveAt_isC {b : Nat} (h : liveAt m b = true) : isC m b = true := by
  unfold liveAt at h; unfold isC
  split at h <;> simp_all

theorem rd_of {b j T sz : Nat} {ro : Option Bool} {cs : List Value} {v : Value} (h : m.get b = some (.cells ro T sz cs)) (hj : cs[j]? = some v) : rd m b j = some v := by simp [rd, cellsOf, h, hj]
theorem rds_of {b T sz : Nat} {ro : Option Bool} {cs : List Value} (h : m.get b = some (.cells ro T sz cs)) : rds m b 0 cs.length = some cs := by simp [rds, cellsOf, h, takeAt]
theorem isC_of {b T sz : Nat} {ro : Option Bool} {cs : List Value} (h : m.get b = some (.cells ro T sz cs)) : isC m b = true := by simp [isC, h]
theorem bif_if {p : Prop} [h : Decidable p] {A B : Prop} : (bif decide p then A else B) = if p then A else B := by by_cases hp : p <;> simp [hp]
theorem bif_eq {α : Type} [DecidableEq α] {x y : α} {A B : Prop} : (bif x == y then A else B) = if x = y then A else B := by by_cases hp : x = y <;> simp [hp]
theorem bif_ne {α : Type} [DecidableEq α] {x y : α} {A B : Prop} : (bif x != y then A else B) = if x = y then B else A := by by_cases hp : x = y <;> simp [hp]
theorem condB {b : Bool} {A B : Prop} (h1 : b = true → A) (h2 : b = false → B) : bif b then A else B := by cases b; exact h2 rfl; exact h1 rfl
theorem condD {p : Prop} {hp : Decidable p} {A B : Prop} (h1 : p → A) (h2 : ¬ p → B) : bif decide p then A else B := by by_cases h : p; simpa [h] using h1 h; simpa [h] using h2 h
theorem condE {α : Type} [DecidableEq α] {x y : α} {A B : Prop} (h1 : x = y → A) (h2 : x ≠ y → B) : bif x == y then A else B := by by_cases h : x = y; simpa [h] using h1 h; simpa [h] using h2 h
theorem condN {α : Type} [DecidableEq α] {x y : α} {A B : Prop} (h1 : x ≠ y → A) (h2 : x = y → B) : bif x != y then A else B := by by_cases h : x = y; simpa [h] using h2 h; simpa [h] using h1 h
theorem condT {b : Bool} {A B : Prop} (hb : b = true) (h : A) : bif b then A else B := by subst hb; exact h
theorem condF {b : Bool} {A B : Prop} (hb : b = false) (h : B) : bif b then A else B := by subst hb; exact h
theorem condDT {p : Prop} {hp : Decidable p} {A B : Prop} (hb : p) (h : A) : bif decide p then A else B := by simpa [hb] using h
theorem condDF {p : Prop} {hp : Decidable p} {A B : Prop} (hb : ¬ p) (h : B) : bif decide p then A else B := by simpa [hb] using h
theorem condET {α : Type} [DecidableEq α] {x y : α} {A B : Prop} (hb : x = y) (h : A) : bif x == y then A else B := by simpa [hb] using h
theorem condEF {α : Type} [DecidableEq α] {x y : α} {A B : Prop} (hb : x ≠ y) (h : B) : bif x == y then A else B := by simpa [hb] using h
theorem condNT {α : Type} [DecidableEq α] {x y : α} {A B : Prop} (hb : x ≠ y) (h : A) : bif x != y then A else B := by simpa [hb] using h
theorem condNF {α : Type} [DecidableEq α] {x y : α} {A B : Prop} (hb : x = y) (h : B) : bif x != y then A else B := by simpa [hb] using h
/-- Writing some cells of a block of one's own. -/
theorem store_of {b T sz off : Nat} {cs vs : List Value} (h : m.get b = some (.cells none T sz cs)) (hl : off + vs.length ≤ cs.length) (hv : vs.all cellOk = true) :
    storeCs m b off vs = some (m.set b (.cells none T sz (cs.take off ++ (vs ++ cs.drop (off + vs.length))))) := by simp only [storeCs, h]; rw [if_pos ⟨hl, hv⟩]

/-- A number out of a list of numbers. -/
theorem Sl.ldi {a : Option Addr} {c : Nat} {k : IntKind} {xs : List Int} (h : Sl m n a c (xs.map (Value.int k))) {i : Nat} (hi : i < xs.length) {K : Int → Prop} (hk : K xs[i]) :
    elimA a False fun b o s => (0 ≤ (i : Int) ∧ (i : Int) < (xs.length : Int) ∧ liveAt m b = true ∧ (s ≠ none → 0 < c)) ∧ ∃ x, rd m b (offOf o s + (i : Int).toNat * 1) = some (.int k x) ∧ K x := by
  have hj : (xs.map (Value.int k))[i]? = some (.int k xs[i]) := by simp
  obtain ⟨b, o, s, rfl, h1, h2, h3⟩ := h.at hj
  exact ⟨⟨by omega, by omega, h1, h2⟩, _, by simpa using h3, hk⟩
theorem Sl.ldb {a : Option Addr} {c : Nat} {xs : List Bool} (h : Sl m n a c (xs.map Value.bool)) {i : Nat} (hi : i < xs.length) {K : Bool → Prop} (hk : K xs[i]) :
    elimA a False fun b o s => (0 ≤ (i : Int) ∧ (i : Int) < (xs.length : Int) ∧ liveAt m b = true ∧ (s ≠ none → 0 < c)) ∧ ∃ x, rd m b (offOf o s + (i : Int).toNat * 1) = some (.bool x) ∧ K x := by
  have hj : (xs.map Value.bool)[i]? = some (.bool xs[i]) := by simp
  obtain ⟨b, o, s, rfl, h1, h2, h3⟩ := h.at hj
  exact ⟨⟨by omega, by omega, h1, h2⟩, _, by simpa using h3, hk⟩
/-- A slice's element, wherever it lies. -/
theorem Sl.ldv {α : Type} {f : α → List Value} {sz : Nat} {a : Option Addr} {c : Nat} {xs : List α} (h : Sl m n a c (xs.flatMap f)) (hf : ∀ x, (f x).length = sz) {i : Nat} (hi : i < xs.length) (hz : 0 < sz) {K : Nat → Nat → Option Nat → Prop}
    (hk : ∀ b o s, isC m b = true → (∀ j v, (f xs[i])[j]? = some v → rd m b (offOf o s + i * sz + j) = some v) → rds m b (offOf o s + i * sz) sz = some (f xs[i]) → K b o s) :
    elimA a False fun b o s => (0 ≤ (i : Int) ∧ (i : Int) < (xs.length : Int) ∧ liveAt m b = true ∧ (s ≠ none → 0 < c)) ∧ K b o s := by
  have hx : xs[i]? = some xs[i] := by simp
  have hlen := flatMap_len hf xs
  have hfit : i * sz + sz ≤ (xs.flatMap f).length := by
    rw [hlen, ← Nat.succ_mul]; exact Nat.mul_le_mul_right _ hi
  obtain ⟨b, o, s, rfl, h1, h2, h3⟩ := h.ats hz hfit
  refine ⟨⟨by omega, by omega, h1, h2⟩, hk b o s (liveAt_isC h1) (fun j v hv => ?_) ?_⟩
  · have hj : j < sz := by have := (List.getElem?_eq_some_iff.1 hv).1; rw [hf] at this; exact this
    have hg : (xs.flatMap f)[i * sz + j]? = some v := (flatMap_get hf xs hx j hj).trans hv
    obtain ⟨b', o', s', e, _, _, g3⟩ := h.at hg
    cases e
    rw [Nat.add_assoc]; exact g3
  · rw [h3, flatMap_drop hf xs hx]

theorem wrapN {k : Nat} (h : k ≤ 9223372036854775806) : IntKind.i64.wrap ((k : Int) + 1) = ((k + 1 : Nat) : Int) := by rw [wrap_id (by omega) (by omega)]; omega
theorem wrapP {k : Nat} (h : 0 < k) (h2 : k ≤ 9223372036854775806) : IntKind.i64.wrap ((k : Int) - 1) = ((k - 1 : Nat) : Int) := by rw [wrap_id (by omega) (by omega)]; omega
/-- A slice's look at nil, when it is copied. -/
theorem Sl.nilAt {a : Option Addr} {c : Nat} {cs : List Value} (h : Sl m n a c cs) {b o : Nat} {s : Option Nat} (e : a = some ⟨b, o, s⟩) : ∃ r, Go.Ab.nilAt m b = some r ∧ (r = true → cs = []) := by
  rcases h with ⟨h1, _⟩ | ⟨b', o', s', full, h1, h2, h3, h4, h5, h6⟩
  · rw [h1] at e; cases e
  · rw [h1] at e; cases e
    have : ∃ r, Go.Ab.nilAt m b = some r := by
      unfold cellsOf at h3
      unfold Go.Ab.nilAt
      split at h3
      · rename_i ro _ _ _ hg
        rw [hg]
        cases ro <;> simp
      · cases h3
    obtain ⟨r, hr⟩ := this
    refine ⟨r, hr, fun e => ?_⟩
    by_cases hc : cs = []
    · exact hc
    · have := (h4 hc).2.2
      rw [hr, e] at this; cases this
end
end Go.Ab
