/- P12: what parts of the program compute; helper of the claim. -/
import Derived.Test.YtpiiddoccloghaaE12
import Derived.Test.YtpiiddoccloghaaAb34
namespace Go.Proofs.Ytpiiddoccloghaa
open Go Go.Ab
theorem mixed : Try.prog.follows .mixedOrders = true := by kernel_rfl

structure D where
  mult : Int
  mode : Int
  last : Option Int
  heard : Bool
  heardAt : Int
  since : Int
  changes : Int

def lastR (m : Mem) (p : Option Addr) : Option Int → Prop
  | none => p = none
  | some x => ∃ l, p = some ⟨l, 0, none⟩ ∧ m.get l = some (.cells none 3 1 [.int .i64 x])
theorem lastR.mono {m m' : Mem} {p : Option Addr} {l : Option Int} (h : lastR m p l) (hm : ∀ i x, m.get i = some (.cells none 3 1 [.int .i64 x]) → m'.get i = m.get i) : lastR m' p l := by
  cases l with
  | none => exact h
  | some x =>
    obtain ⟨b, rfl, hb⟩ := h
    exact ⟨b, rfl, (hm b x hb).trans hb⟩
/-- A watch in memory: its block, its state's block. -/
def Wat (m : Mem) (w s : Nat) (d : D) : Prop :=
  m.get w = some (.cells none 56 1 [.pointer (some ⟨s, 0, none⟩)]) ∧ ∃ p, m.get s = some (.cells none 62 7 [.int .i64 d.mult, .int .i64 d.mode, .pointer p, .bool d.heard, .int .i64 d.heardAt, .int .i64 d.since, .int .i64 d.changes]) ∧ lastR m p d.last

theorem Wat.same {m m' : Mem} {w s : Nat} {d : D} (h : Wat m w s d) (hm : ∀ i T sz cs, m.get i = some (.cells none T sz cs) → T = 56 ∨ T = 62 ∨ T = 3 → m'.get i = m.get i) : Wat m' w s d := by
  obtain ⟨h1, p, h2, h3⟩ := h
  exact ⟨(hm w _ _ _ h1 (.inl rfl)).trans h1, p, (hm s _ _ _ h2 (.inr (.inl rfl))).trans h2, h3.mono fun i x hi => hm i _ _ _ hi (.inr (.inr rfl))⟩
abbrev pp (i : Nat) : Value := .pointer (some ⟨i, 0, none⟩)
theorem up_c {m : Mem} {n w s : Nat} {d : D} {Q : Value → Mem → Nat → Prop} (h : Wat m w s d) (hq : Q (.bool (d.mode == 1)) m n) : Wc Try.prog 19 [pp w] m n Q := by
  refine Wc_of mixed (cfg := d12xcfg) (fuel := 400) ?_
  rw [d12x19]
  obtain ⟨hw, p, hs, _⟩ := h
  simp [-Bool.exists_bool, rd, isC, cellsOf, hw, hs, hq]
theorem since_c {m : Mem} {n w s : Nat} {d : D} {Q : Value → Mem → Nat → Prop} (h : Wat m w s d) (hq : Q (.int .i64 d.since) m n) : Wc Try.prog 21 [pp w] m n Q := by
  refine Wc_of mixed (cfg := d12xcfg) (fuel := 400) ?_
  rw [d12x21]
  obtain ⟨hw, p, hs, _⟩ := h
  simp [-Bool.exists_bool, rd, isC, cellsOf, hw, hs, hq]
theorem turns_c {m : Mem} {n : Nat} {Q : Value → Mem → Nat → Prop} (hq : Q (.agg ⟨[.func (.func 32) ⟨[]⟩ ⟨[]⟩, .func (.func 33) ⟨[]⟩ ⟨[]⟩]⟩) ((m.set n (.cells none 64 2 [.nilFunc, .nilFunc])).set n (.cells none 64 2 [.func (.func 32) ⟨[]⟩ ⟨[]⟩, .func (.func 33) ⟨[]⟩ ⟨[]⟩])) (n + 1)) : Wc Try.prog 30 [] m n Q := by
  refine Wc_of mixed (cfg := d12xcfg) (fuel := 400) ?_
  rw [d12x30]
  simp [-Bool.exists_bool, storeCs, Tr.get_set, cellOk, rds, cellsOf, takeAt]
  exact ⟨_, _, _, _, _, _, ⟨⟨rfl, rfl, rfl⟩, rfl, rfl, rfl⟩, hq⟩

def D.rise (d : D) (now : Int) (h : Bool) : Bool := h && match d.last with
  | some x => d.heard && x == IntKind.i64.wrap (now - 1)
  | none => false
def D.fall (d : D) (now : Int) (h : Bool) : Bool := !h && decide (now ≥ IntKind.i64.wrap (d.heardAt + d.mult))
def D.chg (d : D) (now : Int) (h : Bool) : Bool := if d.mode = 0 then d.rise now h else d.fall now h
def D.next (d : D) (now : Int) (h : Bool) : D :=
  { mult := d.mult, mode := if d.chg now h then IntKind.i64.wrap (1 - d.mode) else d.mode, last := some now, heard := h, heardAt := if h then now else d.heardAt,
    since := if d.chg now h then now else d.since, changes := if d.chg now h then IntKind.i64.wrap (d.changes + 1) else d.changes }
def D.err (d : D) (now : Int) : Int := if now < 0 then 2 else if now > 1099511627776 then 2 else match d.last with
  | some x => if now ≤ x then 20 else 0
  | none => 0
def D.tick (d : D) (now : Int) (h : Bool) : D := if d.err now = 0 then d.next now h else d
def D.out (d : D) (now : Int) (h : Bool) : Bool := if d.err now = 0 then d.chg now h else false

theorem rise_c {m : Mem} {n w s : Nat} {d : D} {now : Int} {h : Bool} {Q : Value → Mem → Nat → Prop} (hw : Wat m w s d) (hq : Q (.bool (d.rise now h)) m n) : Wc Try.prog 32 [pp s, .int .i64 now, .bool h] m n Q := by
  refine Wc_of mixed (cfg := d12xcfg) (fuel := 400) ?_
  rw [d12x32]
  obtain ⟨hw, p, hs, hl⟩ := hw
  unfold D.rise at hq
  cases hd : d.last with
  | none =>
    rw [hd] at hl hq
    simp only [lastR] at hl
    subst hl
    cases h <;> simp_all [rd, isC, cellsOf]
  | some x =>
    rw [hd] at hl hq
    obtain ⟨l, rfl, hl⟩ := hl
    cases h <;> simp [-Bool.exists_bool, rd, isC, cellsOf, hs, hl] at hq ⊢
    · exact hq
    · cases hh : d.heard <;> simp_all
theorem fall_c {m : Mem} {n w s : Nat} {d : D} {now : Int} {h : Bool} {Q : Value → Mem → Nat → Prop} (hw : Wat m w s d) (hq : Q (.bool (d.fall now h)) m (n + 16)) : Wc Try.prog 33 [pp s, .int .i64 now, .bool h] m n Q := by
  refine Wc_of mixed (cfg := d12xcfg) (fuel := 400) ?_
  rw [d12x33]
  obtain ⟨hw, p, hs, hl⟩ := hw
  unfold D.fall at hq
  cases h <;> simp_all [rd, isC, cellsOf]

/-- The last part of a tick. -/
theorem tick2_c {m : Mem} {n w s : Nat} {d : D} {now : Int} {h c : Bool} {Q : Value → Mem → Nat → Prop} (hw : Wat m w s d)
    (hq : ∀ m' n', Wat m' w s { d with last := some now, heard := h, heardAt := if h then now else d.heardAt } → Fr m n m' n' (· = s) → Q (.tuple ⟨[.bool c, .int .i64 0]⟩) m' n') :
    W Try.prog { fn := 11, nt := 114, slots := [(0, pp w), (1, .int .i64 now), (2, .bool h), (8, .bool c)], todo := pt Try.prog 11 [1, 1, 1, 1, 0] } m n Q := by
  refine W.fresh fun hf => W_of1 mixed (cfg := d12xcfg) (fuel := 400) ?_
  rw [d12x11k2]
  obtain ⟨hw, p, hs, hl⟩ := hw
  have h1 := lt_of_get hf hw
  have h2 := lt_of_get hf hs
  have h3 : n ≠ w := by omega
  have h4 : n ≠ s := by omega
  have h5 : w ≠ s := by rintro rfl; rw [hw] at hs; simp [-Bool.exists_bool] at hs
  simp [-Bool.exists_bool, storeCs, Tr.get_set, cellOk, rd, isC, cellsOf, hw, hs, h3, h4, h5.symm]
  cases h
  · simp [-Bool.exists_bool]
    refine hq _ _ ⟨?_, some ⟨n, 0, none⟩, ?_, n, rfl, ?_⟩ ⟨by omega, fun i hi hx => ?_⟩
    · simp [-Bool.exists_bool, Tr.get_set, h3, h5.symm, hw]
    · simp [-Bool.exists_bool, Tr.get_set]
    · simp [-Bool.exists_bool, Tr.get_set, h4.symm]
    · have e1 : n ≠ i := by omega
      have e2 : s ≠ i := fun e => hx e.symm
      simp [-Bool.exists_bool, Tr.get_set, e1, e2]
  · simp [-Bool.exists_bool]
    refine hq _ _ ⟨?_, some ⟨n, 0, none⟩, ?_, n, rfl, ?_⟩ ⟨by omega, fun i hi hx => ?_⟩
    · simp [-Bool.exists_bool, Tr.get_set, h3, h5.symm, hw]
    · simp [-Bool.exists_bool, Tr.get_set]
    · simp [-Bool.exists_bool, Tr.get_set, h4.symm]
    · have e1 : n ≠ i := by omega
      have e2 : s ≠ i := fun e => hx e.symm
      simp [-Bool.exists_bool, Tr.get_set, e1, e2]

/-- What a change does. -/
def D.flip (d : D) (now : Int) (c : Bool) : D :=
  { d with mode := if c then IntKind.i64.wrap (1 - d.mode) else d.mode, since := if c then now else d.since, changes := if c then IntKind.i64.wrap (d.changes + 1) else d.changes }
theorem tick1b_c {m : Mem} {n w s : Nat} {d : D} {now : Int} {h c : Bool} {Q : Value → Mem → Nat → Prop} (hw : Wat m w s d)
    (hq : ∀ m' n', Wat m' w s { d.flip now c with last := some now, heard := h, heardAt := if h then now else d.heardAt } → Fr m n m' n' (· = s) → Q (.tuple ⟨[.bool c, .int .i64 0]⟩) m' n') :
    W Try.prog { fn := 11, nt := 114, slots := [(0, pp w), (1, .int .i64 now), (2, .bool h), (8, .bool c)], todo := pt Try.prog 11 [1, 1, 1, 0, 0] } m n Q := by
  refine W.fresh fun hf => W_of1 mixed (cfg := d12xcfg) (fuel := 400) ?_
  rw [d12x11k1]
  have hw0 := hw
  obtain ⟨hw, p, hs, hl⟩ := hw
  have h5 : w ≠ s := by rintro rfl; rw [hw] at hs; simp [-Bool.exists_bool] at hs
  cases c
  · exact tick2_c hw0 fun m' n' hw' hfr => hq m' n' hw' hfr
  · simp [-Bool.exists_bool, rd, isC, cellsOf, hw, hs, Tr.get_set, h5.symm, storeCs, cellOk]
    refine tick2_c (s := s) (d := d.flip now true) ?_ fun m' n' hw' hfr => ?_
    · refine ⟨by simp [-Bool.exists_bool, Tr.get_set, h5.symm, hw], p, by simp [-Bool.exists_bool, Tr.get_set, D.flip], hl.mono fun i x hi => ?_⟩
      have : s ≠ i := by rintro rfl; rw [hs] at hi; simp [-Bool.exists_bool] at hi
      simp [-Bool.exists_bool, Tr.get_set, this]
    · refine hq m' n' hw' ⟨by have := hfr.1; omega, fun i hi hx => (hfr.2 i (by omega) hx).trans ?_⟩
      have e2 : s ≠ i := fun e => hx e.symm
      simp [-Bool.exists_bool, Tr.get_set, e2]
/-- From the change on. -/
theorem tick1_c {m : Mem} {n w s : Nat} {d : D} {now : Int} {h : Bool} {Q : Value → Mem → Nat → Prop} (hw : Wat m w s d) (hm : d.mode = 0 ∨ d.mode = 1)
    (hq : ∀ m' n', Wat m' w s (d.next now h) → Fr m n m' n' (· = s) → Q (.tuple ⟨[.bool (d.chg now h), .int .i64 0]⟩) m' n') :
    W Try.prog { fn := 11, nt := 114, slots := [(0, pp w), (1, .int .i64 now), (2, .bool h)], todo := pt Try.prog 11 [1, 1, 0] } m n Q := by
  refine W.fresh fun hf => W_of1 mixed (cfg := d12xcfg) (fuel := 400) ?_
  rw [d12x11k0]
  obtain ⟨hw, p, hs, hl⟩ := hw
  have h1 := lt_of_get hf hw
  have h2 := lt_of_get hf hs
  have h3 : n + 17 ≠ w := by omega
  have h4 : n + 17 ≠ s := by omega
  refine ⟨_, _, turns_c ⟨rfl, rfl, rfl⟩, Later.mk ?_⟩
  have e1 : ∀ i, i ≠ n + 17 → ((m.set (n + 17) (.cells none 64 2 [.nilFunc, .nilFunc])).set (n + 17) (.cells none 64 2 [.func (.func 32) ⟨[]⟩ ⟨[]⟩, .func (.func 33) ⟨[]⟩ ⟨[]⟩])).get i = m.get i := fun i hi => by
    have : n + 17 ≠ i := fun e => hi e.symm
    simp [-Bool.exists_bool, Tr.get_set, this]
  revert e1
  generalize (m.set (n + 17) (AObj.cells none 64 2 [Value.nilFunc, Value.nilFunc])).set (n + 17) (AObj.cells none 64 2 [Value.func (Fn.func 32) ⟨[]⟩ ⟨[]⟩, Value.func (Fn.func 33) ⟨[]⟩ ⟨[]⟩]) = m1
  intro e1
  have k1 := (e1 w h3.symm).trans hw
  have k2 := (e1 s h4.symm).trans hs
  have k3 : lastR m1 p d.last := hl.mono fun i x hi => e1 i (by have := lt_of_get hf hi; omega)
  have hw1 : Wat m1 w s d := ⟨k1, p, k2, k3⟩
  have fr1 : ∀ {m' n' q}, Fr m1 q m' n' (· = s) → n ≤ q → Fr m n m' n' (· = s) := fun h hq =>
    ⟨Nat.le_trans hq h.1, fun i hi hx => (h.2 i (by omega) hx).trans (e1 i (by omega))⟩
  rcases hm with hm | hm
  · simp [-Bool.exists_bool, rd, isC, cellsOf, hw, hs, k1, k2, hm]
    refine ⟨_, _, _, rise_c hw1 ⟨rfl, rfl, rfl⟩, Later.mk ?_⟩
    simp [-Bool.exists_bool, rd, isC, cellsOf, hw, hs, hm]
    refine tick1b_c hw1 fun m' n' hw' hfr => ?_
    have := hq m' n' (by simpa [-Bool.exists_bool, D.next, D.flip, D.chg, hm] using hw') (fr1 hfr (by omega))
    simpa [-Bool.exists_bool, D.chg, hm] using this
  · simp [-Bool.exists_bool, rd, isC, cellsOf, hw, hs, k1, k2, hm]
    refine ⟨_, _, _, fall_c hw1 ⟨rfl, rfl, rfl⟩, Later.mk ?_⟩
    simp [-Bool.exists_bool, rd, isC, cellsOf, hw, hs, hm]
    refine tick1b_c hw1 fun m' n' hw' hfr => ?_
    have := hq m' n' (by simpa [-Bool.exists_bool, D.next, D.flip, D.chg, hm] using hw') (fr1 hfr (by omega))
    simpa [-Bool.exists_bool, D.chg, hm] using this

theorem tick_c {m : Mem} {n w s : Nat} {d : D} {now : Int} {h : Bool} {Q : Value → Mem → Nat → Prop} (hw : Wat m w s d) (hm : d.mode = 0 ∨ d.mode = 1)
    (hq : ∀ m' n', Wat m' w s (d.tick now h) → Fr m n m' n' (· = s) → Q (.tuple ⟨[.bool (d.out now h), .int .i64 (d.err now)]⟩) m' n') : Wc Try.prog 11 [pp w, .int .i64 now, .bool h] m n Q := by
  refine Wc_of mixed (cfg := d12xcfg) (fuel := 400) ?_
  rw [d12x11]
  have hw0 := hw
  obtain ⟨hw, p, hs, hl⟩ := hw
  unfold D.tick D.out at hq
  by_cases h1 : now < 0
  · have e : d.err now = 2 := by simp [-Bool.exists_bool, D.err, h1]
    simp [-Bool.exists_bool, rd, isC, cellsOf, hw, h1]
    simpa [-Bool.exists_bool, e] using hq m n (by simpa [-Bool.exists_bool, e] using hw0) Fr.refl
  by_cases h2 : now > 1099511627776
  · have e : d.err now = 2 := by simp [-Bool.exists_bool, D.err, h2]
    simp [-Bool.exists_bool, rd, isC, cellsOf, hw, h1, h2]
    simpa [-Bool.exists_bool, e] using hq m n (by simpa [-Bool.exists_bool, e] using hw0) Fr.refl
  cases hd : d.last with
  | none =>
    rw [hd] at hl
    simp only [lastR] at hl
    subst hl
    have e : d.err now = 0 := by simp [-Bool.exists_bool, D.err, h1, h2, hd]
    simp [-Bool.exists_bool, rd, isC, cellsOf, hw, hs, h1, h2]
    exact tick1_c hw0 hm (by simpa [-Bool.exists_bool, e] using hq)
  | some x =>
    rw [hd] at hl
    obtain ⟨l, rfl, hl⟩ := hl
    simp [-Bool.exists_bool, rd, isC, cellsOf, hw, hs, hl, h1, h2]
    by_cases h3 : now ≤ x
    · have e : d.err now = 20 := by simp [-Bool.exists_bool, D.err, h1, h2, hd, h3]
      simp [-Bool.exists_bool, h3]
      simpa [-Bool.exists_bool, e] using hq m n (by simpa [-Bool.exists_bool, e] using hw0) Fr.refl
    · have e : d.err now = 0 := by simp [-Bool.exists_bool, D.err, h1, h2, hd, h3]
      simp [-Bool.exists_bool, h3]
      exact tick1_c hw0 hm (by simpa [-Bool.exists_bool, e] using hq)
end Go.Proofs.Ytpiiddoccloghaa
