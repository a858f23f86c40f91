import Derived.Test.YtiomjekkmjinbaaAb35
namespace Go.Ab
open Go
variable {P : Program} {m : Mem} {n : Nat}
/-- A slice over the whole of a block that was made or typed out. -/
def Made (m : Mem) (T : TypeId) (sz : Nat) (a : Option Addr) (l c : Nat) (cs : List Value) : Prop :=
  ∃ i, a = some ⟨i, 0, none⟩ ∧ c = l ∧ l * sz = cs.length ∧ m.get i = some (.cells none T sz cs)

theorem append_made {t e sz l c k kc : Nat} {a x : Option Addr} {cs xs : List Value} (he : elemOk P t e sz = true) (h : Made m e sz a l c cs) (hs : sliceCells m sz k (.slice x k kc) = some xs) (hk : 0 < k)
    (hc : xs.all cellOk = true) (hl : xs.length = k * sz) (hb : l + k ≤ 2 ^ 30) :
    appendA P m n t t (.slice a l c) (.slice x k kc) = .val (.slice (some ⟨n, 0, some 0⟩) (l + k) (l + k)) (m.set n (.cells none e sz (cs ++ xs))) (n + 1) ∧ OwnA (m.set n (.cells none e sz (cs ++ xs))) e sz (some ⟨n, 0, some 0⟩) (l + k) (l + k) (cs ++ xs) := by
  obtain ⟨info, z, hu, hi, hz, h1, h2, h3⟩ := elemOk_some he
  have hbig : (2 * (l + k) + 256) * info.bytes ≤ 2 ^ 48 := by
    have : (2 * (l + k) + 256) * info.bytes ≤ (2 * 2 ^ 30 + 256) * 1024 := Nat.mul_le_mul (by omega) h3
    omega
  have harg : appArg m z info (.slice e) (.slice x k kc) = some (k, xs) := by
    simp only [appArg, h1, hs, Option.map_some]
  obtain ⟨i, rfl, rfl, hlen, hg⟩ := h
  refine ⟨?_, .inr ⟨n, rfl, by rw [Nat.add_mul, hlen, List.length_append, hl], rfl, by omega, by simp [Tr.get_set]⟩⟩
  have hold : sliceCells m sz c (.slice (some ⟨i, 0, none⟩) c c) = some cs := by
    simp [sliceCells, cellsOf, hg, takeAt, hlen]
  have hno : ¬ c + k ≤ c := by omega
  have hk2 : c + k ≤ 2 ^ 40 := by omega
  simp only [appendA, hu, hi, hz, harg, h1, h2, hc, hold]
  simp [hno, hbig, hk2]

/-- Appending nothing gives the slice back. -/
theorem append_nothing {t e sz l kc : Nat} {a x : Option Addr} {cs : List Value} (he : elemOk P t e sz = true) (h : Made m e sz a l l cs) (hs : sliceCells m sz 0 (.slice x 0 kc) = some []) :
    appendA P m n t t (.slice a l l) (.slice x 0 kc) = .val (.slice a l l) m n := by
  obtain ⟨info, z, hu, hi, hz, h1, h2, h3⟩ := elemOk_some he
  have harg : appArg m z info (.slice e) (.slice x 0 kc) = some (0, []) := by
    simp only [appArg, h1, hs, Option.map_some]
  obtain ⟨i, rfl, _, hlen, hg⟩ := h
  simp only [appendA, hu, hi, hz, harg, h1, h2]
  simp
theorem Made.view {T sz l c : Nat} {a : Option Addr} {cs : List Value} (h : Made m T sz a l c cs) : View m T a c cs := by
  obtain ⟨i, rfl, rfl, hlen, hg⟩ := h
  by_cases hc : cs = []
  · exact .inl hc
  · exact .inr ⟨i, 0, none, none, sz, cs, rfl, hg, by simp [liveAt, hg], fun h => (h rfl).elim, fun j v hj => by simpa using hj⟩
/-- What a slice of one-cell elements holds, when it is read whole. -/
theorem View.cells {T c : Nat} {a : Option Addr} {cs : List Value} (h : View m T a c cs) (hne : cs ≠ []) : sliceCells m 1 cs.length (.slice a cs.length c) = some cs := by
  rcases h with rfl | ⟨b, o, s, ro, sz, full, rfl, hg, hl, hc, hv⟩
  · exact (hne rfl).elim
  · have key : (full.drop (offOf o s)).take cs.length = cs := by
      apply List.ext_getElem?
      intro j
      rw [List.getElem?_take]
      by_cases hj : j < cs.length
      · rw [if_pos hj, List.getElem?_drop, hv j _ (List.getElem?_eq_getElem hj), List.getElem?_eq_getElem hj]
      · rw [if_neg hj, List.getElem?_eq_none (by omega)]
    have hpos : 0 < cs.length := List.length_pos_iff.2 hne
    have hle : offOf o s + cs.length ≤ full.length := by
      have h1 := hv (cs.length - 1) _ (List.getElem?_eq_getElem (by omega))
      have h2 := (List.getElem?_eq_some_iff.1 h1).1
      omega
    cases s with
    | none =>
      rw [offOf_none] at key hle
      simp [sliceCells, cellsOf, hg, takeAt, hle, key]
    | some t =>
      have : 0 < c := hc (by simp)
      simp only [offOf] at key hle
      simp [sliceCells, cellsOf, hg, takeAt, hle, key, this]
/-- What a call leaves has no block at or above the next one. -/
theorem W.after {fr : AFrame} {Q : Value → Mem → Nat → Prop} (h : W P fr m n fun v m' n' => (∀ i, n' ≤ i → m'.get i = none) → Q v m' n') : W P fr m n Q := fun H β w rf hf hm =>
  have ⟨v, m', n', β', w', h1, ex, h2⟩ := h H β w rf hf hm
  ⟨v, m', n', β', w', h1 (fun i hi => by
    cases hg : m'.get i with
    | none => rfl
    | some o =>
      have := (ex.rel.obj i o hg).1
      rw [Dm.has_iff] at this
      exact absurd this.1 (Nat.not_lt.2 hi)), ex, h2⟩
theorem Wc.after {f : FuncId} {args : List Value} {Q : Value → Mem → Nat → Prop} (h : Wc P f args m n fun v m' n' => (∀ i, n' ≤ i → m'.get i = none) → Q v m' n') : Wc P f args m n Q := by
  unfold Wc at h ⊢
  split
  · rename_i fr hf; rw [hf] at h; exact W.after h
  · rename_i hf; rw [hf] at h; exact h
end Go.Ab
