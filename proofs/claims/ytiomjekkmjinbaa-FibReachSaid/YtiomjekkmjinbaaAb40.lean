/- Slices and blocks with bounds; what a call leaves as it was; loops. -/
import Derived.Test.YtiomjekkmjinbaaAb39
namespace Go.Ab
open Go

section
variable {P : Program} {m m' m'' : Mem} {n n' n'' n0 : Nat}

/-- All that was there is as it was. -/
structure Le (m : Mem) (n : Nat) (m' : Mem) (n' : Nat) : Prop where
  le : n ≤ n'
  same : ∀ i, i < n → m'.get i = m.get i
theorem Le.refl : Le m n m n := ⟨Nat.le_refl _, fun _ _ => rfl⟩
theorem Le.trans (h : Le m n m' n') (k : Le m' n' m'' n'') : Le m n m'' n'' := ⟨Nat.le_trans h.le k.le, fun i hi => (k.same i (Nat.lt_of_lt_of_le hi h.le)).trans (h.same i hi)⟩
theorem Le.up (h : Le m n m' n') (k : n' ≤ n'') : Le m n m' n'' := ⟨Nat.le_trans h.le k, h.same⟩
theorem Le.set {i : Nat} {o : AObj} (h : Le m n m' n') (hi : n ≤ i) (k : n' ≤ n'') : Le m n (m'.set i o) n'' :=
  ⟨Nat.le_trans h.le k, fun j hj => by rw [Tr.get_set, if_neg (by omega)]; exact h.same j hj⟩
theorem Le.new {o : AObj} : Le m n (m.set n o) (n + 1) := Le.set .refl (Nat.le_refl _) (Nat.le_succ _)
theorem Le.and (h : Le m n m' n') (k : n' ≤ n'') (hs : ∀ i, i < n → m''.get i = m'.get i) : Le m n m'' n'' :=
  ⟨Nat.le_trans h.le k, fun i hi => (hs i hi).trans (h.same i hi)⟩
theorem Le.fr (h : Le m n m' n') {X : Nat → Prop} : Fr m n m' n' X := ⟨h.le, fun i hi _ => h.same i hi⟩
theorem Le.get {i : Nat} {o : AObj} (h : Le m n m' n') (hi : i < n) (hg : m.get i = some o) : m'.get i = some o := (h.same i hi).trans hg
theorem Le.of_fr {X : Nat → Prop} (h : Fr m n m' n' X) (hx : ∀ i, i < n → ¬ X i) : Le m n m' n' := ⟨h.1, fun i hi => h.2 i hi (hx i hi)⟩

/-- A block of one's own. -/
structure Own (m : Mem) (n0 n b : Nat) (o : AObj) : Prop where
  lo : n0 ≤ b
  hi : b < n
  get : m.get b = some o
theorem Own.same {b : Nat} {o : AObj} (h : Own m n0 n b o) (k : n ≤ n') (hs : m'.get b = m.get b) : Own m' n0 n' b o := ⟨h.lo, Nat.lt_of_lt_of_le h.hi k, hs.trans h.get⟩
theorem Own.le {b : Nat} {o : AObj} (h : Own m n0 n b o) (k : Le m n m' n') : Own m' n0 n' b o := h.same k.le (k.same _ h.hi)
theorem Own.low {b : Nat} {o : AObj} (h : Own m n0 n b o) (k : n' ≤ n0) : Own m n' n b o := ⟨Nat.le_trans k h.lo, h.hi, h.get⟩
theorem Own.new {o : AObj} (k : n0 ≤ n) : Own (m.set n o) n0 (n + 1) n o := ⟨k, Nat.lt_succ_self n, by simp [Tr.get_set]⟩

/-- A slice that is read: its cells, where they lie. -/
def Sl (m : Mem) (n : Nat) (a : Option Addr) (c : Nat) (cs : List Value) : Prop :=
  (a = none ∧ cs = []) ∨ ∃ b o s full, a = some ⟨b, o, s⟩ ∧ b < n ∧ cellsOf m b = some full ∧ (cs ≠ [] → liveAt m b = true ∧ (s ≠ none → 0 < c) ∧ nilAt m b = some false) ∧ offOf o s + cs.length ≤ full.length ∧ (full.drop (offOf o s)).take cs.length = cs

theorem cellsOf_same {b : Nat} (h : m'.get b = m.get b) : cellsOf m' b = cellsOf m b := by unfold cellsOf; rw [h]
theorem nilAt_same {b : Nat} (h : m'.get b = m.get b) : nilAt m' b = nilAt m b := by unfold nilAt; rw [h]
theorem liveAt_same {b : Nat} (h : m'.get b = m.get b) : liveAt m' b = liveAt m b := by unfold liveAt; rw [h]

theorem Sl.same {a : Option Addr} {c : Nat} {cs : List Value} (h : Sl m n a c cs) (k : n ≤ n') (hs : ∀ b o s, a = some ⟨b, o, s⟩ → m'.get b = m.get b) : Sl m' n' a c cs := by
  rcases h with ⟨h1, h2⟩ | ⟨b, o, s, full, h1, h2, h3, h4, h5, h6⟩
  · exact .inl ⟨h1, h2⟩
  · have := hs b o s h1
    exact .inr ⟨b, o, s, full, h1, Nat.lt_of_lt_of_le h2 k, (cellsOf_same this).trans h3, fun e => ⟨(liveAt_same this).trans (h4 e).1, (h4 e).2.1, (nilAt_same this).trans (h4 e).2.2⟩, h5, h6⟩
theorem Sl.lt {a : Option Addr} {c : Nat} {cs : List Value} (h : Sl m n a c cs) {b o : Nat} {s : Option Nat} (e : a = some ⟨b, o, s⟩) : b < n := by
  rcases h with ⟨h1, _⟩ | ⟨b', o', s', full, h1, h2, _⟩
  · rw [h1] at e; cases e
  · rw [h1] at e; cases e; exact h2
theorem Sl.le {a : Option Addr} {c : Nat} {cs : List Value} (h : Sl m n a c cs) (k : Le m n m' n') : Sl m' n' a c cs :=
  h.same k.le fun _ _ _ e => k.same _ (h.lt e)
theorem Sl.nil {c : Nat} : Sl m n none c [] := .inl ⟨rfl, rfl⟩

/-- An element's cell. -/
theorem Sl.at {a : Option Addr} {c : Nat} {cs : List Value} (h : Sl m n a c cs) {j : Nat} {v : Value} (hj : cs[j]? = some v) :
    ∃ b o s, a = some ⟨b, o, s⟩ ∧ liveAt m b = true ∧ (s ≠ none → 0 < c) ∧ rd m b (offOf o s + j) = some v := by
  rcases h with ⟨_, rfl⟩ | ⟨b, o, s, full, rfl, _, h3, h4, h5, h6⟩
  · simp at hj
  · have hlt := (List.getElem?_eq_some_iff.1 hj).1
    have hne : cs ≠ [] := by intro e; subst e; simp at hj
    refine ⟨b, o, s, rfl, (h4 hne).1, (h4 hne).2.1, ?_⟩
    simp only [rd, h3]
    rw [← h6, List.getElem?_take, if_pos hlt, List.getElem?_drop] at hj
    exact hj
/-- Some cells that follow each other. -/
theorem Sl.ats {a : Option Addr} {c : Nat} {cs : List Value} (h : Sl m n a c cs) {j k : Nat} (hk : 0 < k) (hj : j + k ≤ cs.length) :
    ∃ b o s, a = some ⟨b, o, s⟩ ∧ liveAt m b = true ∧ (s ≠ none → 0 < c) ∧ rds m b (offOf o s + j) k = some ((cs.drop j).take k) := by
  rcases h with ⟨_, rfl⟩ | ⟨b, o, s, full, rfl, _, h3, h4, h5, h6⟩
  · simp at hj; omega
  · have hne : cs ≠ [] := by intro e; subst e; simp at hj; omega
    refine ⟨b, o, s, rfl, (h4 hne).1, (h4 hne).2.1, ?_⟩
    simp only [rds, h3, takeAt]
    rw [if_pos (by omega)]
    congr 1
    conv => rhs; rw [← h6]
    rw [List.drop_take, List.drop_drop, List.take_take]
    congr 1
    omega
/-- All cells, read whole. -/
theorem Sl.cells {a : Option Addr} {l c sz : Nat} {cs : List Value} (h : Sl m n a c cs) (hl : cs.length = l * sz) (hz : 0 < sz) : sliceCells m sz l (.slice a l c) = some cs := by
  rcases h with ⟨rfl, rfl⟩ | ⟨b, o, s, full, rfl, _, h3, h4, h5, h6⟩
  · have : l = 0 := by
      rcases Nat.eq_zero_or_pos l with h | h
      · exact h
      · have := Nat.mul_pos h hz; simp at hl; omega
    subst this; simp [sliceCells]
  · have hfit : offOf o s + l * sz ≤ full.length := by omega
    have key : takeAt full (offOf o s) (l * sz) = some cs := by rw [takeAt, if_pos hfit, ← hl, h6]
    cases s with
    | none => simp only [sliceCells, h3, Nat.le_refl, if_true]; exact key
    | some t =>
      have : 0 < c ∨ l = 0 := by
        rcases Nat.eq_zero_or_pos l with h | h
        · exact .inr h
        · refine .inl ((h4 ?_).2.1 (by simp))
          intro e; subst e
          have := Nat.mul_pos h hz; simp at hl; omega
      simp only [sliceCells, h3, Nat.le_refl, if_true, this]; exact key

/-- A slice of one's own: its cells end its block. -/
def Ow (m : Mem) (n0 n : Nat) (T sz : Nat) (a : Option Addr) (l c : Nat) (cs : List Value) : Prop :=
  c = l ∧ l * sz = cs.length ∧ ((a = none ∧ cs = [] ∧ l = 0) ∨ ∃ b o s full, a = some ⟨b, o, s⟩ ∧ n0 ≤ b ∧ b < n ∧ m.get b = some (.cells none T sz full) ∧ offOf o s ≤ full.length ∧ full.drop (offOf o s) = cs)

theorem Ow.nil {T sz : Nat} : Ow m n0 n T sz none 0 0 [] := ⟨rfl, by simp, .inl ⟨rfl, rfl, rfl⟩⟩
theorem Ow.same {T sz l c : Nat} {a : Option Addr} {cs : List Value} (h : Ow m n0 n T sz a l c cs) (k : n ≤ n') (hs : ∀ b o s, a = some ⟨b, o, s⟩ → m'.get b = m.get b) : Ow m' n0 n' T sz a l c cs := by
  obtain ⟨h0, h1, h⟩ := h
  refine ⟨h0, h1, ?_⟩
  rcases h with h | ⟨b, o, s, full, g1, g2, g3, g4, g5, g6⟩
  · exact .inl h
  · exact .inr ⟨b, o, s, full, g1, g2, by omega, (hs b o s g1).trans g4, g5, g6⟩
theorem Ow.bnd {T sz l c : Nat} {a : Option Addr} {cs : List Value} (h : Ow m n0 n T sz a l c cs) {b o : Nat} {s : Option Nat} (e : a = some ⟨b, o, s⟩) : n0 ≤ b ∧ b < n := by
  obtain ⟨h0, h1, h⟩ := h
  rcases h with ⟨h, _⟩ | ⟨b', o', s', full, g1, g2, g3, g4, g5, g6⟩
  · rw [h] at e; cases e
  · rw [g1] at e; cases e; exact ⟨g2, g3⟩
theorem Ow.le {T sz l c : Nat} {a : Option Addr} {cs : List Value} (h : Ow m n0 n T sz a l c cs) (k : Le m n m' n') : Ow m' n0 n' T sz a l c cs :=
  h.same k.le fun _ _ _ e => k.same _ (h.bnd e).2
theorem Ow.low {T sz l c : Nat} {a : Option Addr} {cs : List Value} (h : Ow m n0 n T sz a l c cs) (k : n' ≤ n0) : Ow m n' n T sz a l c cs := by
  obtain ⟨h0, h1, h⟩ := h
  refine ⟨h0, h1, ?_⟩
  rcases h with h | ⟨b, o, s, full, g1, g2, g3, g4, g5, g6⟩
  · exact .inl h
  · exact .inr ⟨b, o, s, full, g1, by omega, g3, g4, g5, g6⟩
theorem Ow.sl {T sz l c : Nat} {a : Option Addr} {cs : List Value} (h : Ow m n0 n T sz a l c cs) : Sl m n a c cs := by
  obtain ⟨rfl, h1, h⟩ := h
  rcases h with ⟨rfl, rfl, rfl⟩ | ⟨b, o, s, full, rfl, g2, g3, g4, g5, rfl⟩
  · exact .inl ⟨rfl, rfl⟩
  · refine .inr ⟨b, o, s, full, rfl, g3, by simp [cellsOf, g4], fun e => ⟨by simp [liveAt, g4], fun _ => ?_, by simp [nilAt, g4]⟩, by simp; omega, by rw [List.take_of_length_le (Nat.le_refl _)]⟩
    rcases Nat.eq_zero_or_pos c with h | h
    · subst h
      simp only [Nat.zero_mul] at h1
      exact (e (List.length_eq_zero_iff.1 h1.symm)).elim
    · exact h
/-- The whole of a new block. -/
theorem Ow.new {T sz l : Nat} {cs : List Value} (k : n0 ≤ n) (h : l * sz = cs.length) : Ow (m.set n (.cells none T sz cs)) n0 (n + 1) T sz (some ⟨n, 0, none⟩) l l cs :=
  ⟨rfl, h, .inr ⟨n, 0, none, cs, rfl, k, by omega, by simp [Tr.get_set], by simp, by simp⟩⟩

/-- Appending to a slice of one's own. -/
theorem Ow.append {t e sz l c k kc : Nat} {a x : Option Addr} {cs xs : List Value} (he : elemOk P t e sz = true) (h : Ow m n0 n e sz a l c cs) (hs : sliceCells m sz k (.slice x k kc) = some xs)
    (hc : xs.all cellOk = true) (hl : xs.length = k * sz) (hb : l + k ≤ 2 ^ 30) (h0 : n0 ≤ n) :
    ∃ a' m' n', appendA P m n t t (.slice a l c) (.slice x k kc) = .val (.slice a' (l + k) (l + k)) m' n' ∧ Ow m' n0 n' e sz a' (l + k) (l + k) (cs ++ xs) ∧ n ≤ n' ∧
      (∀ b o s, a' = some ⟨b, o, s⟩ → (∃ o s, a = some ⟨b, o, s⟩) ∨ n ≤ b) ∧ (∀ i, i < n → (∀ b o s, a = some ⟨b, o, s⟩ → i ≠ b) → m'.get i = m.get i) ∧ ((∀ i, n ≤ i → m.get i = none) → ∀ i, n' ≤ i → m'.get i = none) := by
  obtain ⟨info, z, hu, hi, hz, h1, h2, h3⟩ := elemOk_some he
  have hbig : (2 * (l + k) + 256) * info.bytes ≤ 2 ^ 48 := by
    have : (2 * (l + k) + 256) * info.bytes ≤ (2 * 2 ^ 30 + 256) * 1024 := Nat.mul_le_mul (by omega) h3
    omega
  have harg : appArg m z info (.slice e) (.slice x k kc) = some (k, xs) := by
    simp only [appArg, h1, hs, Option.map_some]
  have hk2 : l + k ≤ 2 ^ 40 := by omega
  obtain ⟨rfl, hlen, h⟩ := h
  by_cases hk : k = 0
  · subst hk
    have hx : xs = [] := List.length_eq_zero_iff.1 (by simpa using hl)
    subst hx
    refine ⟨a, m, n, ?_, ⟨rfl, by simpa using hlen, by simpa using h⟩, Nat.le_refl _, fun b o s e => .inl ⟨o, s, e⟩, fun _ _ _ => rfl, fun h => h⟩
    rcases h with ⟨rfl, rfl, rfl⟩ | ⟨b, o, s, full, rfl, g2, g3, g4, g5, rfl⟩
    · simp only [appendA, hu, hi, hz, harg, h1, h2]; simp
    · simp only [appendA, hu, hi, hz, harg, h1, h2]; simp
  · rcases h with ⟨rfl, rfl, rfl⟩ | ⟨b, o, s, full, rfl, g2, g3, g4, g5, rfl⟩
    · simp only [Nat.zero_add] at hbig hk2 ⊢
      refine ⟨some ⟨n, 0, some 0⟩, m.set n (.cells none e sz xs), n + 1, ?_, ⟨rfl, by simpa using hl.symm, .inr ⟨n, 0, some 0, xs, rfl, h0, Nat.lt_succ_self n, by simp [Tr.get_set], Nat.zero_le _, by simp [offOf]⟩⟩, Nat.le_succ n, fun b o s e => .inr (by cases e; exact Nat.le_refl _), fun i hi' _ => by rw [Tr.get_set, if_neg (by omega)], fun hf i hi' => by rw [Tr.get_set, if_neg (by omega)]; exact hf i (by omega)⟩
      simp only [appendA, hu, hi, hz, harg, h1, h2, hc]
      simp [hk, hbig, hk2]
    · have hold : sliceCells m sz c (.slice (some ⟨b, o, s⟩) c c) = some (full.drop (offOf o s)) := by
        have hfit : offOf o s + c * sz ≤ full.length := by simp at hlen; omega
        have key : takeAt full (offOf o s) (c * sz) = some (full.drop (offOf o s)) := by
          rw [takeAt, if_pos hfit]; congr 1; rw [List.take_of_length_le]; omega
        have hcell : cellsOf m b = some full := by simp [cellsOf, g4]
        cases s with
        | none => simp only [sliceCells, hcell, Nat.le_refl, if_true]; exact key
        | some t =>
          have : 0 < c ∨ c = 0 := by omega
          simp only [sliceCells, hcell, Nat.le_refl, if_true, this]; exact key
      have hno : ¬ c + k ≤ c := by omega
      cases s with
      | none =>
        refine ⟨some ⟨n, 0, some 0⟩, m.set n (.cells none e sz (full.drop (offOf o none) ++ xs)), n + 1, ?_, ⟨rfl, by rw [Nat.add_mul, hlen, List.length_append, hl], .inr ⟨n, 0, some 0, full.drop (offOf o none) ++ xs, rfl, h0, Nat.lt_succ_self n, by simp [Tr.get_set], Nat.zero_le _, by simp [offOf]⟩⟩, Nat.le_succ n, fun b' o' s' e => .inr (by cases e; exact Nat.le_refl _), fun i hi' _ => by rw [Tr.get_set, if_neg (by omega)], fun hf i hi' => by rw [Tr.get_set, if_neg (by omega)]; exact hf i (by omega)⟩
        simp only [appendA, hu, hi, hz, harg, h1, h2, hc, hold]
        simp [hno, hbig, hk2]
      | some t =>
        have hfit : t + c * sz = full.length := by simp [offOf] at hlen g5; omega
        refine ⟨some ⟨n, 0, some 0⟩, (m.del b).set n (.cells none e sz (full.drop (offOf o (some t)) ++ xs)), n + 1, ?_, ⟨rfl, by rw [Nat.add_mul, hlen, List.length_append, hl], .inr ⟨n, 0, some 0, full.drop (offOf o (some t)) ++ xs, rfl, h0, Nat.lt_succ_self n, by simp [Tr.get_set], Nat.zero_le _, by simp [offOf]⟩⟩, Nat.le_succ n, fun b' o' s' e => .inr (by cases e; exact Nat.le_refl _), fun i hi' hne => by
          rw [Tr.get_set, if_neg (by omega), Tr.get_del, if_neg (fun e => hne b o (some t) rfl e.symm)], fun hf i hi' => by
          rw [Tr.get_set, if_neg (by omega), Tr.get_del]
          split
          · rfl
          · exact hf i (by omega)⟩
        simp only [appendA, hu, hi, hz, harg, h1, h2, hc, hold]
        simp [hno, hbig, hk2, g4, hfit]

/-- Writing into a slice of one's own. -/
theorem Ow.store {T sz l c : Nat} {a : Option Addr} {cs vs : List Value} (h : Ow m n0 n T sz a l c cs) {j : Nat} (hj : j + vs.length ≤ cs.length) (hv : vs.all cellOk = true) (hp : 0 < vs.length) :
    ∃ b o s m', a = some ⟨b, o, s⟩ ∧ n0 ≤ b ∧ b < n ∧ liveAt m b = true ∧ (s ≠ none → 0 < c) ∧ storeCs m b (offOf o s + j) vs = some m' ∧ Ow m' n0 n T sz a l c (cs.take j ++ (vs ++ cs.drop (j + vs.length))) ∧ ∀ i, i ≠ b → m'.get i = m.get i := by
  have hsl := h.sl
  obtain ⟨rfl, hlen, h⟩ := h
  rcases h with ⟨rfl, rfl, rfl⟩ | ⟨b, o, s, full, rfl, g2, g3, g4, g5, rfl⟩
  · simp only [List.length_nil] at hj; omega
  · have hfl : offOf o s + j + vs.length ≤ full.length := by rw [List.length_drop] at hj; omega
    have hpos : 0 < c := by
      rcases Nat.eq_zero_or_pos c with h | h
      · subst h; simp only [Nat.zero_mul] at hlen; omega
      · exact h
    refine ⟨b, o, s, m.set b (.cells none T sz (full.take (offOf o s + j) ++ (vs ++ full.drop (offOf o s + j + vs.length)))), rfl, g2, g3, by simp [liveAt, g4], fun _ => hpos, by simp only [storeCs, g4]; rw [if_pos ⟨hfl, hv⟩],
      ⟨rfl, ?_, .inr ⟨b, o, s, full.take (offOf o s + j) ++ (vs ++ full.drop (offOf o s + j + vs.length)), rfl, g2, g3, by simp [Tr.get_set], ?_, ?_⟩⟩, fun i hi => by rw [Tr.get_set, if_neg (fun e => hi e.symm)]⟩
    · simp only [List.length_append, List.length_take, List.length_drop] at hlen hj ⊢; omega
    · simp only [List.length_append, List.length_take, List.length_drop]; omega
    · rw [List.drop_append_of_le_length (by rw [List.length_take]; omega), List.drop_take, List.drop_drop, show offOf o s + j - offOf o s = j by omega, show offOf o s + (j + vs.length) = offOf o s + j + vs.length by omega]
end

section
variable {α : Type} {f : α → List Value} {sz : Nat}
theorem flatMap_len (hf : ∀ x, (f x).length = sz) : ∀ l : List α, (l.flatMap f).length = l.length * sz
  | [] => by simp
  | x :: l => by simp [flatMap_len hf l, hf x, Nat.succ_mul, Nat.add_comm]
theorem flatMap_get (hf : ∀ x, (f x).length = sz) : ∀ (l : List α) {i : Nat} {x : α}, l[i]? = some x → ∀ j, j < sz → (l.flatMap f)[i * sz + j]? = (f x)[j]?
  | [], i, x, h, _, _ => by simp at h
  | y :: l, 0, x, h, j, hj => by
    simp at h; subst h
    simp only [List.flatMap_cons, Nat.zero_mul, Nat.zero_add]
    rw [List.getElem?_append_left (by rw [hf]; exact hj)]
  | y :: l, i + 1, x, h, j, hj => by
    simp at h
    simp only [List.flatMap_cons]
    rw [List.getElem?_append_right (by rw [hf, Nat.succ_mul]; omega), hf]
    have : (i + 1) * sz + j - sz = i * sz + j := by rw [Nat.succ_mul]; omega
    rw [this, flatMap_get hf l h j hj]
theorem flatMap_drop (hf : ∀ x, (f x).length = sz) (l : List α) {i : Nat} {x : α} (h : l[i]? = some x) : ((l.flatMap f).drop (i * sz)).take sz = f x := by
  apply List.ext_getElem?
  intro j
  rw [List.getElem?_take]
  by_cases hj : j < sz
  · rw [if_pos hj, List.getElem?_drop, flatMap_get hf l h j hj]
  · rw [if_neg hj, List.getElem?_eq_none (by rw [hf]; omega)]
end

/-- A loop over a list: what holds before each round. -/
theorem W.over {P : Program} {α σ : Type} {l : List α} {F : σ → Nat → AFrame} {Q : Value → Mem → Nat → Prop} (I : σ → List α → Mem → Nat → Prop)
    (step : ∀ pre x post s m n, l = pre ++ x :: post → I s pre m n → (∀ s' m' n', I s' (pre ++ [x]) m' n' → W P (F s' (pre.length + 1)) m' n' Q) → W P (F s pre.length) m n Q)
    (done : ∀ s m n, I s l m n → W P (F s l.length) m n Q) : ∀ post pre s m n, l = pre ++ post → I s pre m n → W P (F s pre.length) m n Q
  | [], pre, s, m, n, h, hi => by simp at h; subst h; exact done s m n hi
  | x :: post, pre, s, m, n, h, hi => step pre x post s m n h hi fun s' m' n' hi' => by
    have := W.over I step done post (pre ++ [x]) s' m' n' (by simp [h]) hi'
    simpa using this
/-- A loop with a measure. -/
theorem W.by {P : Program} {σ : Type} {F : σ → AFrame} {Q : Value → Mem → Nat → Prop} (I : σ → Mem → Nat → Prop) (μ : σ → Nat)
    (step : ∀ s m n, I s m n → (∀ s' m' n', μ s' < μ s → I s' m' n' → W P (F s') m' n' Q) → W P (F s) m n Q) : ∀ k s m n, μ s ≤ k → I s m n → W P (F s) m n Q
  | 0, s, m, n, hk, hi => step s m n hi fun s' m' n' h _ => by omega
  | k + 1, s, m, n, hk, hi => step s m n hi fun s' m' n' h hi' => W.by I μ step k s' m' n' (by omega) hi'
end Go.Ab
