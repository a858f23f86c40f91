/- Writing into lists of numbers of one's own; a copy. -/
import Derived.Test.YtiomjekkmjinbaaAb42
namespace Go.Ab
open Go

section
variable {P : Program} {m : Mem} {n n0 : Nat}

theorem map_take_drop_set {α : Type} (f : α → Value) (X : List α) (i : Nat) (y : α) (hi : i < X.length) : (X.map f).take i ++ ([f y] ++ (X.map f).drop (i + 1)) = (X.set i y).map f := by
  rw [List.set_eq_take_append_cons_drop, if_pos hi]
  simp [List.map_take, List.map_drop]
/-- Writing an element. -/
theorem Ow.st1 {α : Type} {f : α → Value} {T l c : Nat} {a : Option Addr} {X : List α} (h : Ow m n0 n T 1 a l c (X.map f)) {i : Nat} (hi : i < X.length) {y : α} (hy : cellOk (f y) = true) {K : Mem → Prop}
    (hk : ∀ m', Ow m' n0 n T 1 a l c ((X.set i y).map f) → (∀ j, (∀ b o s, a = some ⟨b, o, s⟩ → j ≠ b) → m'.get j = m.get j) → K m') :
    elimA a False fun b o s => (0 ≤ (i : Int) ∧ (i : Int) < (l : Int) ∧ liveAt m b = true ∧ (s ≠ none → 0 < c)) ∧ ∃ m', storeCs m b (offOf o s + (i : Int).toNat * 1) [f y] = some m' ∧ K m' := by
  have hlen : l = X.length := by have := h.2.1; simpa using this
  obtain ⟨b, o, s, m', rfl, h1, h2, h3, h4, h5, h6, h7⟩ := h.store (j := i) (vs := [f y]) (by simp; omega) (by simp [hy]) (by simp)
  refine ⟨⟨by omega, by omega, h3, h4⟩, m', by simpa using h5, hk m' ?_ fun j hj => h7 j (hj b o s rfl)⟩
  have := map_take_drop_set f X i y hi
  simp only [List.length_singleton] at h6
  rw [this] at h6
  exact h6
/-- A fresh memory stays so. -/
def Fs (m : Mem) (n : Nat) : Prop := ∀ i, n ≤ i → m.get i = none
theorem Fs.set {o : AObj} (h : Fs m n) : Fs (m.set n o) (n + 1) := fun i hi => by rw [Tr.get_set, if_neg (by omega)]; exact h i (by omega)
theorem Fs.up {n' : Nat} (h : Fs m n) (k : n ≤ n') : Fs m n' := fun i hi => h i (by omega)
theorem Fs.in_ {i : Nat} {o : AObj} (h : Fs m n) (hi : i < n) : Fs (m.set i o) n := fun j hj => by rw [Tr.get_set, if_neg (by omega)]; exact h j hj

/-- What a call hands back and leaves, exactly. -/
def Exact (P : Program) (f : FuncId) (args : List Value) (m : Mem) (n : Nat) (v : Value) (m' : Mem) (n' : Nat) : Prop := ∀ Q : Value → Mem → Nat → Prop, Q v m' n' → Wc P f args m n Q

/-- Blocks of cells stay as they are. -/
def KeepC (m m' : Mem) : Prop := ∀ i, isC m i = true → m'.get i = m.get i
theorem isC_cellsOf {b : Nat} {full : List Value} (h : cellsOf m b = some full) : isC m b = true := by
  unfold cellsOf at h; unfold isC
  split at h
  · rename_i hg; rw [hg]
  · cases h
theorem KeepC.trans {m1 m2 : Mem} (h : KeepC m m1) (k : KeepC m1 m2) : KeepC m m2 := fun i hi =>
  have e := h i hi
  (k i (by unfold isC at hi ⊢; rw [e]; exact hi)).trans e
theorem KeepC.refl : KeepC m m := fun _ _ => rfl
theorem KeepC.set {m' : Mem} {i : Nat} {o : AObj} (h : KeepC m m') (hi : isC m i = false) : KeepC m (m'.set i o) := fun j hj => by
  rw [Tr.get_set, if_neg (by rintro rfl; rw [hi] at hj; cases hj)]; exact h j hj
theorem Sl.keep {m' : Mem} {n' : Nat} {a : Option Addr} {c : Nat} {cs : List Value} (h : Sl m n a c cs) (k : n ≤ n') (hk : KeepC m m') : Sl m' n' a c cs :=
  h.same k fun b o s e => by
    rcases h with ⟨h1, _⟩ | ⟨b', o', s', full, h1, h2, h3, _⟩
    · rw [h1] at e; cases e
    · rw [h1] at e; cases e; exact hk _ (isC_cellsOf h3)
theorem Ow.keep {m' : Mem} {n' T sz l c : Nat} {a : Option Addr} {cs : List Value} (h : Ow m n0 n T sz a l c cs) (k : n ≤ n') (hk : KeepC m m') : Ow m' n0 n' T sz a l c cs :=
  h.same k fun b o s e => by
    obtain ⟨_, _, h⟩ := h
    rcases h with ⟨h1, _⟩ | ⟨b', o', s', full, g1, g2, g3, g4, _⟩
    · rw [h1] at e; cases e
    · rw [g1] at e; cases e; exact hk _ (isC_of g4)
theorem clrAll_get : ∀ (bs : List Nat) (m : Mem) (i : Nat), i ∉ bs → (clrAll bs m).get i = m.get i
  | [], _, _, _ => rfl
  | b :: bs, m, i, h => by
    rw [clrAll, clrAll_get bs _ i fun hi => h (List.mem_cons_of_mem _ hi), Tr.get_set, if_neg fun (e : b = i) => h (by rw [e]; exact List.mem_cons_self ..)]
theorem elimJ_exit {a b : Prop} {f : Code → Prop} {i : Nat} : elimJ (some (.exit i)) a b f = f (.exit i) := rfl

/- loops over functions -/
section
variable {fn : FuncId} {nt : Nat} {sl : Slots} {st st' : LoopState} {p j : Option Code} {todo : List Item} {ds : Nat}
theorem lpReady_of : lpReady (loopO fn nt sl .ready p todo ds) = true := by unfold loopO; split <;> rfl
theorem lpBusy_of : lpBusy (loopO fn nt sl st p todo ds) = loopO fn nt sl .busy p todo ds := by unfold loopO; split <;> rfl
theorem isLp_of : isLp (loopO fn nt sl st p todo ds) = true := by unfold loopO; split <;> rfl
theorem lpSet_of : lpSet (loopO fn nt sl st p todo ds) st' j = loopO fn nt sl st' j todo ds := by unfold loopO; split <;> rfl
def rfOk (nt : Nat) (todo : List Item) (k : Nat) : Bool :=
  match todo with
  | .code (.rangeFunc _ ps _ _) :: _ => Nat.beq k ps.toList.length && ps.toList.all (fun t => Nat.blt t nt)
  | _ => false
theorem roundA_of {Y : Nat} {args : List Value} (hg : m.get Y = some (loopO fn nt sl st p todo ds)) (hk : rfOk nt todo args.length = true) : roundA m Y args = some (roundF fn nt sl todo args Y) := by
  unfold rfOk at hk
  split at hk
  · rename_i f ps a b k
    simp only [Bool.and_eq_true] at hk
    have h1 := Nat.eq_of_beq_eq_true hk.1
    simp only [loopO] at hg
    unfold roundA
    rw [hg]
    simp only
    rw [if_pos ⟨h1, hk.2⟩]
    rfl
  · cases hk
end
end
end Go.Ab
