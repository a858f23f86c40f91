/- Slices: read, owned, appended to. -/
import Derived.Test.YtiomjekkmjinbaaAb34
namespace Go.Ab
open Go

section
variable {P : Program} {m : Mem} {n : Nat}

/-- A slice that is read: its cells, where they lie. -/
def View (m : Mem) (T : TypeId) (a : Option Addr) (c : Nat) (cs : List Value) : Prop :=
  cs = [] ∨ ∃ b o s ro sz full, a = some ⟨b, o, s⟩ ∧ m.get b = some (.cells ro T sz full) ∧ liveAt m b = true ∧ (s ≠ none → 0 < c) ∧ ∀ j v, cs[j]? = some v → full[offOf o s + j]? = some v

/-- A slice that was made by appending. -/
def OwnA (m : Mem) (T : TypeId) (sz : Nat) (a : Option Addr) (l c : Nat) (cs : List Value) : Prop :=
  (cs = [] ∧ a = none ∧ l = 0 ∧ c = 0) ∨ ∃ b, a = some ⟨b, 0, some 0⟩ ∧ l * sz = cs.length ∧ c = l ∧ 0 < l ∧ m.get b = some (.cells none T sz cs)

def elemOk (P : Program) (t e sz : Nat) : Bool :=
  match P.underlying t, P.info? e, zeroOf P e with
  | some (.slice e'), some info, some z => e' == e && (info.size == sz && (z.cells.toList.length == sz && decide (info.bytes ≤ 1024)))
  | _, _, _ => false
theorem elemOk_some {t e sz : Nat} (h : elemOk P t e sz = true) : ∃ info z, P.underlying t = some (.slice e) ∧ P.info? e = some info ∧ zeroOf P e = some z ∧ info.size = sz ∧ z.cells.toList.length = sz ∧ info.bytes ≤ 1024 := by
  unfold elemOk at h
  split at h
  · rename_i e' info z h1 h2 h3
    simp only [Bool.and_eq_true, beq_iff_eq, decide_eq_true_eq] at h
    obtain ⟨rfl, h5, h6, h7⟩ := h
    exact ⟨info, z, h1, h2, h3, h5, h6, h7⟩
  · cases h

theorem append_own {t e sz l c k kc : Nat} {a x : Option Addr} {cs xs : List Value} (he : elemOk P t e sz = true) (h : OwnA m e sz a l c cs) (hs : sliceCells m sz k (.slice x k kc) = some xs) (hk : 0 < k)
    (hc : xs.all cellOk = true) (hl : xs.length = k * sz) (hb : l + k ≤ 2 ^ 30) :
    ∃ m', appendA P m n t t (.slice a l c) (.slice x k kc) = .val (.slice (some ⟨n, 0, some 0⟩) (l + k) (l + k)) m' (n + 1) ∧ OwnA m' e sz (some ⟨n, 0, some 0⟩) (l + k) (l + k) (cs ++ xs) ∧
      m'.get n = some (.cells none e sz (cs ++ xs)) ∧ ∀ i, i ≠ n → (∀ b, a = some ⟨b, 0, some 0⟩ → i ≠ b) → m'.get i = m.get i := by
  obtain ⟨info, z, hu, hi, hz, h1, h2, h3⟩ := elemOk_some he
  have hbig : ∀ q : Nat, q ≤ 2 ^ 30 → (2 * q + 256) * info.bytes ≤ 2 ^ 48 := fun q hq => by
    have : (2 * q + 256) * info.bytes ≤ (2 * 2 ^ 30 + 256) * 1024 := Nat.mul_le_mul (by omega) h3
    omega
  have harg : appArg m z info (.slice e) (.slice x k kc) = some (k, xs) := by
    simp only [appArg, h1, hs, Option.map_some]
  rcases h with ⟨rfl, rfl, rfl, rfl⟩ | ⟨b, rfl, hlen, rfl, hpos, hg⟩
  · refine ⟨m.set n (.cells none e sz xs), ?_, .inr ⟨n, rfl, by simp [hl], rfl, by omega, by simp [Tr.get_set]⟩, by simp [Tr.get_set], fun i hi _ => by simp [Tr.get_set, show ¬ n = i from fun e => hi e.symm]⟩
    have hb1 := hbig k (by omega)
    have hk' : k ≠ 0 := by omega
    have hk2 : k ≤ 2 ^ 40 := by omega
    simp only [appendA, hu, hi, hz, harg, h1, h2, hc]
    simp [hk']
    exact ⟨hb1, hk2⟩
  · have hbn : ∀ i, i ≠ n → i ≠ b → ((m.del b).set n (.cells none e sz (cs ++ xs))).get i = m.get i := fun i h1 h2 => by
      simp [Tr.get_set, Tr.get_del, show ¬ n = i from fun e => h1 e.symm, show ¬ b = i from fun e => h2 e.symm]
    refine ⟨(m.del b).set n (.cells none e sz (cs ++ xs)), ?_, .inr ⟨n, rfl, by rw [Nat.add_mul, hlen, List.length_append, hl], rfl, by omega, by simp [Tr.get_set]⟩, by simp [Tr.get_set], fun i hi hib => hbn i hi (hib b rfl)⟩
    have hb1 := hbig (c + k) hb
    have hold : sliceCells m sz c (.slice (some ⟨b, 0, some 0⟩) c c) = some cs := by
      simp [sliceCells, cellsOf, hg, takeAt, hlen, hpos]
    have hno : ¬ c + k ≤ c := by omega
    have hk2 : c + k ≤ 2 ^ 40 := by omega
    simp only [appendA, hu, hi, hz, harg, h1, h2, hc, hold]
    simp [hno, hb1, hk2, hg, hlen]
theorem View.at {T c : Nat} {a : Option Addr} {cs : List Value} (h : View m T a c cs) {j : Nat} {v : Value} (hj : cs[j]? = some v) :
    ∃ b o s, a = some ⟨b, o, s⟩ ∧ liveAt m b = true ∧ (s ≠ none → 0 < c) ∧ rd m b (offOf o s + j) = some v := by
  rcases h with rfl | ⟨b, o, s, ro, sz, full, rfl, hg, hl, hc, hv⟩
  · simp at hj
  · exact ⟨b, o, s, rfl, hl, hc, by simp [rd, cellsOf, hg, hv j v hj]⟩
theorem View.same {T c : Nat} {a : Option Addr} {cs : List Value} {m' : Mem} (h : View m T a c cs) (hm : ∀ b o, m.get b = some o → (∃ ro sz full, o = .cells ro T sz full) → (∃ o s, a = some ⟨b, o, s⟩) → m'.get b = m.get b) : View m' T a c cs := by
  rcases h with rfl | ⟨b, o, s, ro, sz, full, rfl, hg, hl, hc, hv⟩
  · exact .inl rfl
  · have := hm b _ hg ⟨_, _, _, rfl⟩ ⟨_, _, rfl⟩
    exact .inr ⟨b, o, s, ro, sz, full, rfl, this.trans hg, by unfold liveAt at hl ⊢; rw [this]; exact hl, hc, hv⟩
theorem OwnA.view {T sz l c : Nat} {a : Option Addr} {cs : List Value} (h : OwnA m T sz a l c cs) : View m T a c cs := by
  rcases h with ⟨rfl, rfl, rfl, rfl⟩ | ⟨b, rfl, hlen, rfl, hpos, hg⟩
  · exact .inl rfl
  · exact .inr ⟨b, 0, some 0, none, sz, cs, rfl, hg, by simp [liveAt, hg], fun _ => hpos, fun j v hj => by simpa using hj⟩
theorem OwnA.same {T sz l c : Nat} {a : Option Addr} {cs : List Value} {m' : Mem} (h : OwnA m T sz a l c cs) (hm : ∀ b, a = some ⟨b, 0, some 0⟩ → m'.get b = m.get b) : OwnA m' T sz a l c cs := by
  rcases h with ⟨rfl, rfl, rfl, rfl⟩ | ⟨b, rfl, hlen, rfl, hpos, hg⟩
  · exact .inl ⟨rfl, rfl, rfl, rfl⟩
  · exact .inr ⟨b, rfl, hlen, rfl, hpos, (hm b rfl).trans hg⟩
/-- One cell of a new block. -/
theorem one_cell {T sz k : Nat} {v : Value} (h : m.get k = some (.cells none T sz [v])) : sliceCells m 1 1 (.slice (some ⟨k, 0, none⟩) 1 1) = some [v] := by
  simp [sliceCells, cellsOf, h, takeAt]
theorem wrap_id {x : Int} (h : -9223372036854775808 ≤ x) (h' : x ≤ 9223372036854775807) : IntKind.i64.wrap x = x := by
  unfold IntKind.wrap
  simp only [IntKind.bits, IntKind.signed]
  show (if (true && decide (x % (2 ^ 64 : Int) ≥ (2 ^ (64 - 1) : Int))) = true then x % (2 ^ 64 : Int) - (2 ^ 64 : Int) else x % (2 ^ 64 : Int)) = x
  by_cases hx : 0 ≤ x
  · have e : x % (2 ^ 64 : Int) = x := Int.emod_eq_of_lt hx (by omega)
    rw [e, if_neg]
    simp; omega
  · have e : x % (2 ^ 64 : Int) = x + 2 ^ 64 := by omega
    rw [e, if_pos]
    · omega
    · simp; omega
end
end Go.Ab
