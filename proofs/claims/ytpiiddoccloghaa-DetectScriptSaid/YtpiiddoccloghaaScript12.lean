/- Script12: what parts of the program compute; helper of the claim. -/
import Derived.Test.YtpiiddoccloghaaU12
import Derived.Test.YtpiiddoccloghaaAb41
namespace Go.Proofs.Ytpiiddoccloghaa
open Go Go.Ab

def D.rlast (d : D) : Int := match d.last with
  | some x => x
  | none => -1
/-- The reference's watch in memory. -/
def Rat (m : Mem) (o : Nat) (d : D) : Prop :=
  m.get o = some (.cells none 67 7 [.int .i64 d.mult, .bool (d.mode == 1), .int .i64 d.rlast, .int .i64 d.heardAt, .bool d.heard, .int .i64 d.since, .int .i64 d.changes])
/-- What every watch keeps, of its last tick. -/
structure D.good (d : D) : Prop where
  ok : d.ok
  last : ∀ x, d.last = some x → 0 ≤ x
  none : d.last = none → d.heard = false
theorem good_init {k : Int} (hk : 1 ≤ k ∧ k ≤ 1000) : (D.init k).good := ⟨⟨hk, .inl rfl⟩, fun _ h => (by cases h), fun _ => rfl⟩
theorem good_tick {d : D} (h : d.good) (now : Int) (b : Bool) : (d.tick now b).good := by
  unfold D.tick
  split
  · rename_i he
    refine ⟨D.next_ok h.ok _ _, fun x hx => ?_, fun hx => by cases hx⟩
    simp only [D.next, Option.some.injEq] at hx
    subst hx
    unfold D.err at he
    by_cases hn : now < 0
    · rw [if_pos hn] at he; cases he
    · omega
  · exact h

theorem rnew_c {m : Mem} {n : Nat} {k : Int} {Q : Value → Mem → Nat → Prop} (hk : 1 ≤ k ∧ k ≤ 1000)
    (hq : ∀ m', Rat m' n (D.init k) → Fr m n m' (n + 1) (fun _ => False) → Q (.tuple ⟨[pp n, .int .i64 0]⟩) m' (n + 1)) : Wc Try.prog 23 [.int .i64 k] m n Q := by
  refine Wc_of mixed (cfg := d12xcfg) (fuel := 400) ?_
  rw [d12x23]
  have h1 : ¬ k < 1 := by omega
  have h2 : ¬ k > 1000 := by omega
  simp only [decide_eq_false h1, decide_eq_false h2, cond_false]
  refine hq _ (by simp [-Bool.exists_bool, Rat, Tr.get_set, D.init, D.rlast]) ⟨by omega, fun i hi _ => ?_⟩
  have e : ¬ n = i := by omega
  simp [-Bool.exists_bool, Tr.get_set, e]
theorem rcopy_c {m : Mem} {n o : Nat} {d : D} {Q : Value → Mem → Nat → Prop} (h : Rat m o d) (hq : ∀ m', Rat m' n d → Fr m n m' (n + 1) (fun _ => False) → Q (pp n) m' (n + 1)) : Wc Try.prog 26 [pp o] m n Q := by
  refine Wc_of mixed (cfg := d12xcfg) (fuel := 400) ?_
  rw [d12x26]
  unfold Rat at h
  simp [-Bool.exists_bool, rds, cellsOf, h, takeAt, storeCs, Tr.get_set, cellOk]
  refine ⟨_, _, _, _, _, _, _, ⟨rfl, rfl, rfl, rfl, rfl, rfl, rfl⟩, ?_⟩
  refine hq _ ?_ ⟨by omega, fun i hi _ => ?_⟩
  · simp [-Bool.exists_bool, Rat, Tr.get_set]
  · have e : ¬ n = i := by omega
    simp [-Bool.exists_bool, Tr.get_set, e]
theorem rdue_c {m : Mem} {n o : Nat} {d : D} {Q : Value → Mem → Nat → Prop} (h : Rat m o d) (hq : ∀ n', n ≤ n' → Q (.tuple ⟨[.int .i64 (if d.mode = 1 then IntKind.i64.wrap (d.heardAt + d.mult) else 0), .bool (d.mode == 1)]⟩) m n') : Wc Try.prog 31 [pp o] m n Q := by
  refine Wc_of mixed (cfg := d12xcfg) (fuel := 400) ?_
  rw [d12x31]
  unfold Rat at h
  have h1 := hq n (by omega)
  have h2 := hq (n + 11) (by omega)
  by_cases hm : d.mode = 1
  · simp only [hm, if_true, beq_self_eq_true] at h2
    simp [-Bool.exists_bool, rd, isC, cellsOf, h, hm]
    exact h2
  · have hb : (d.mode == 1) = false := by simp [-Bool.exists_bool, hm]
    simp only [hm, if_false, hb] at h1
    simp [-Bool.exists_bool, rd, isC, cellsOf, h, hm]
    exact h1
theorem due_c {m : Mem} {n w s : Nat} {d : D} {Q : Value → Mem → Nat → Prop} (h : Wat m w s d) (hq : ∀ n', n ≤ n' → Q (.tuple ⟨[.int .i64 (if d.mode = 1 then IntKind.i64.wrap (d.heardAt + d.mult) else 0), .bool (d.mode == 1)]⟩) m n') : Wc Try.prog 12 [pp w] m n Q := by
  refine Wc_of mixed (cfg := d12xcfg) (fuel := 400) ?_
  rw [d12x12]
  refine up_c h ⟨_, rfl, Later.mk ?_⟩
  obtain ⟨hw, p, hs, _⟩ := h
  have h1 := hq n (by omega)
  have h2 := hq (n + 17) (by omega)
  by_cases hm : d.mode = 1
  · simp only [hm, if_true, beq_self_eq_true] at h2
    simp [-Bool.exists_bool, rd, isC, cellsOf, hw, hs, hm]
    exact h2
  · have hb : (d.mode == 1) = false := by simp [-Bool.exists_bool, hm]
    simp only [hm, if_false, hb] at h1
    simp [-Bool.exists_bool, hb]
    exact h1
theorem rreset_c {m : Mem} {n o : Nat} {d : D} {Q : Value → Mem → Nat → Prop} (h : Rat m o d) (hk : 1 ≤ d.mult ∧ d.mult ≤ 1000) (hf : ∀ i, n ≤ i → m.get i = none)
    (hq : ∀ m' n', Rat m' o (D.init d.mult) → Fr m n m' n' (· = o) → Q (.tuple ⟨[]⟩) m' n') : Wc Try.prog 24 [pp o] m n Q := by
  refine Wc_of mixed (cfg := d12xcfg) (fuel := 400) ?_
  rw [d12x24]
  have ho := lt_of_get hf h
  have h0 := h
  unfold Rat at h
  refine ⟨by simp [-Bool.exists_bool, isC, h], d.mult, by simp [-Bool.exists_bool, rd, cellsOf, h], ?_⟩
  refine rnew_c hk fun m1 hr hfr => ⟨_, _, rfl, Later.mk ?_⟩
  have h1 := hfr.2 o ho (fun h => h)
  have hr' := hr
  unfold Rat at hr'
  simp only [elimP_some]
  refine ⟨_, _, _, _, _, _, _, by simp [-Bool.exists_bool, rds, cellsOf, hr', takeAt]; exact ⟨rfl, rfl, rfl, rfl, rfl, rfl, rfl⟩, _, by simp [-Bool.exists_bool, storeCs, h1, h, cellOk]; rfl, ?_⟩
  refine hq _ _ ?_ ⟨by omega, fun i hi hx => ?_⟩
  · simp [-Bool.exists_bool, Rat, Tr.get_set]
  · have e : ¬ o = i := fun e => hx e.symm
    simp [-Bool.exists_bool, Tr.get_set, e]
    exact hfr.2 i hi (fun h => h)
theorem reset_c {m : Mem} {n w s : Nat} {d : D} {Q : Value → Mem → Nat → Prop} (h : Wat m w s d)
    (hq : ∀ m' n', Wat m' w s (D.init d.mult) → Fr m n m' n' (· = s) → Q (.int .i64 0) m' n') : Wc Try.prog 13 [pp w] m n Q := by
  refine Wc_of mixed (cfg := d12xcfg) (fuel := 400) ?_
  rw [d12x13]
  obtain ⟨hw, p, hs, hl⟩ := h
  have hne : ¬ s = w := by rintro rfl; rw [hw] at hs; simp [-Bool.exists_bool] at hs
  simp [-Bool.exists_bool, rd, isC, cellsOf, hw, hs, storeCs, cellOk]
  refine hq _ _ ⟨?_, none, ?_, rfl⟩ ⟨by omega, fun i hi hx => ?_⟩
  · simp [-Bool.exists_bool, Tr.get_set, hne, hw]
  · simp [-Bool.exists_bool, Tr.get_set, D.init]
  · have e : ¬ s = i := fun e => hx e.symm
    simp [-Bool.exists_bool, Tr.get_set, e]
def RatR (m : Mem) (o : Nat) (k : Int) (al : Bool) (la he : Int) (wa : Bool) (fr ma : Int) : Prop :=
  m.get o = some (.cells none 67 7 [.int .i64 k, .bool al, .int .i64 la, .int .i64 he, .bool wa, .int .i64 fr, .int .i64 ma])
theorem rt2 {m : Mem} {n o : Nat} {k la he fr ma now : Int} {al wa heard ch : Bool} {Q : Value → Mem → Nat → Prop} (h : RatR m o k al la he wa fr ma)
    (hq : ∀ m', RatR m' o k (if ch then !al else al) now he heard (if ch then now else fr) (if ch then IntKind.i64.wrap (ma + 1) else ma) → (∀ i, i ≠ o → m'.get i = m.get i) → Q (.tuple ⟨[.bool ch, .int .i64 0]⟩) m' n) :
    W Try.prog { fn := 27, nt := 99, slots := [(0, pp o), (1, .int .i64 now), (2, .bool heard), (8, .bool ch)], todo := pt Try.prog 27 [1, 1, 1, 1, 1, 0] } m n Q := by
  refine W_of1 mixed (cfg := d12xcfg) (fuel := 400) ?_
  rw [d12x27k2]
  unfold RatR at h
  cases ch with
  | true =>
    simp [-Bool.exists_bool, rd, isC, cellsOf, h, storeCs, cellOk, Tr.get_set]
    refine hq _ (by simp [-Bool.exists_bool, RatR, Tr.get_set]) fun i hi => ?_
    have e : ¬ o = i := fun e => hi e.symm
    simp [-Bool.exists_bool, Tr.get_set, e]
  | false =>
    simp [-Bool.exists_bool, rd, isC, cellsOf, h, storeCs, cellOk, Tr.get_set]
    refine hq _ (by simp [-Bool.exists_bool, RatR, Tr.get_set]) fun i hi => ?_
    have e : ¬ o = i := fun e => hi e.symm
    simp [-Bool.exists_bool, Tr.get_set, e]
theorem rt1 {m : Mem} {n o : Nat} {k la he fr ma now : Int} {al wa heard ch : Bool} {Q : Value → Mem → Nat → Prop} (h : RatR m o k al la he wa fr ma)
    (hq : ∀ m', RatR m' o k (if ch then !al else al) now (if heard then now else he) heard (if ch then now else fr) (if ch then IntKind.i64.wrap (ma + 1) else ma) → (∀ i, i ≠ o → m'.get i = m.get i) → Q (.tuple ⟨[.bool ch, .int .i64 0]⟩) m' n) :
    W Try.prog { fn := 27, nt := 99, slots := [(0, pp o), (1, .int .i64 now), (2, .bool heard), (8, .bool ch)], todo := pt Try.prog 27 [1, 1, 1, 1, 0, 0] } m n Q := by
  refine W_of1 mixed (cfg := d12xcfg) (fuel := 400) ?_
  rw [d12x27k1]
  cases heard with
  | true =>
    have h' := h
    unfold RatR at h
    have hs : storeCs m o 3 [Value.int IntKind.i64 now] = some (m.set o (.cells none 67 7 [.int .i64 k, .bool al, .int .i64 la, .int .i64 now, .bool wa, .int .i64 fr, .int .i64 ma])) := by simp [-Bool.exists_bool, storeCs, h, cellOk]
    refine ⟨by simp [-Bool.exists_bool, isC, h], _, hs, rt2 (k := k) (al := al) (la := la) (he := now) (wa := wa) (fr := fr) (ma := ma) (by simp [-Bool.exists_bool, RatR, Tr.get_set]) fun m' h1 h2 => hq m' h1 fun i hi => ?_⟩
    have e : ¬ o = i := fun e => hi e.symm
    rw [h2 i hi]; simp [-Bool.exists_bool, Tr.get_set, e]
  | false => exact rt2 h hq
def rchg (k : Int) (al : Bool) (la he : Int) (wa : Bool) (now : Int) (heard : Bool) : Bool :=
  if al then !heard && decide (now ≥ IntKind.i64.wrap (he + k)) else heard && (wa && la == IntKind.i64.wrap (now - 1))
theorem rt0 {m : Mem} {n o : Nat} {k la he fr ma now : Int} {al wa heard : Bool} {Q : Value → Mem → Nat → Prop} (h : RatR m o k al la he wa fr ma)
    (hq : ∀ m' n', n ≤ n' → RatR m' o k (if rchg k al la he wa now heard then !al else al) now (if heard then now else he) heard (if rchg k al la he wa now heard then now else fr) (if rchg k al la he wa now heard then IntKind.i64.wrap (ma + 1) else ma) →
      (∀ i, i ≠ o → m'.get i = m.get i) → Q (.tuple ⟨[.bool (rchg k al la he wa now heard), .int .i64 0]⟩) m' n') :
    W Try.prog { fn := 27, nt := 99, slots := [(0, pp o), (1, .int .i64 now), (2, .bool heard)], todo := pt Try.prog 27 [1, 1, 0] } m n Q := by
  refine W_of1 mixed (cfg := d12xcfg) (fuel := 400) ?_
  rw [d12x27k0]
  have h' := h
  unfold RatR at h
  cases al with
  | true =>
    cases heard with
    | true =>
      simp [-Bool.exists_bool, rd, isC, cellsOf, h]
      exact rt1 h' fun m' h1 h2 => hq m' _ (by omega) h1 h2
    | false =>
      simp [-Bool.exists_bool, rd, isC, cellsOf, h]
      exact rt1 h' fun m' h1 h2 => hq m' _ (by omega) (by simpa [-Bool.exists_bool, rchg] using h1) h2
  | false =>
    cases heard with
    | true =>
      cases wa with
      | true =>
        simp [-Bool.exists_bool, rd, isC, cellsOf, h]
        exact rt1 h' fun m' h1 h2 => hq m' _ (by omega) h1 h2
      | false =>
        simp [-Bool.exists_bool, rd, isC, cellsOf, h]
        exact rt1 h' fun m' h1 h2 => hq m' _ (by omega) h1 h2
    | false =>
      simp [-Bool.exists_bool, rd, isC, cellsOf, h]
      exact rt1 h' fun m' h1 h2 => hq m' _ (by omega) h1 h2
theorem rchg_eq {d : D} (hg : d.good) (now : Int) (b : Bool) : rchg d.mult (d.mode == 1) d.rlast d.heardAt d.heard now b = d.chg now b := by
  have e0 : ¬ ((1 : Int) = 0) := by decide
  rcases hg.ok.mode with h | h
  · simp only [rchg, D.chg, h, D.rise, if_true]
    cases hl : d.last with
    | none => rw [hg.none hl]; cases b <;> rfl
    | some x => simp only [D.rlast, hl]; rfl
  · simp only [rchg, D.chg, h, D.fall, if_neg e0]; rfl
theorem rtick_c {m : Mem} {n o : Nat} {d : D} {now : Int} {b : Bool} {Q : Value → Mem → Nat → Prop} (h : Rat m o d) (hg : d.good)
    (hq : ∀ m' n', Rat m' o (d.tick now b) → Fr m n m' n' (· = o) → Q (.tuple ⟨[.bool (d.out now b), .int .i64 (d.err now)]⟩) m' n') : Wc Try.prog 27 [pp o, .int .i64 now, .bool b] m n Q := by
  refine Wc_of mixed (cfg := d12xcfg) (fuel := 400) ?_
  rw [d12x27]
  have h' := h
  unfold Rat at h
  have hfin : d.err now = 0 → W Try.prog { fn := 27, nt := 99, slots := [(0, pp o), (1, .int .i64 now), (2, .bool b)], todo := pt Try.prog 27 [1, 1, 0] } m n Q := fun he => by
    refine rt0 h' fun m' n' hn h1 h2 => ?_
    rw [rchg_eq hg] at h1 ⊢
    have := hq m' n' ?_ ⟨hn, fun i _ hx => h2 i hx⟩
    · rw [D.out, if_pos he, he] at this; exact this
    · rw [D.tick, if_pos he]
      unfold Rat
      unfold RatR at h1
      have hm : ((d.next now b).mode == 1) = (if d.chg now b = true then !(d.mode == 1) else (d.mode == 1)) := by
        have := D.next_up hg.ok now b
        revert this
        cases d.chg now b <;> cases ((d.next now b).mode == 1) <;> cases (d.mode == 1) <;> simp [-Bool.exists_bool]
      rw [hm]
      exact h1
  have hbad : d.err now ≠ 0 → Q (.tuple ⟨[.bool false, .int .i64 (d.err now)]⟩) m n := fun he => by
    have := hq m n (by rw [D.tick, if_neg he]; exact h') Fr.refl
    rwa [D.out, if_neg he] at this
  unfold D.err at hfin hbad
  by_cases h1 : now < 0
  · simp only [decide_eq_true h1, cond_true]
    simp only [if_pos h1] at hbad
    exact hbad (by decide)
  by_cases h2 : now > 1099511627776
  · simp only [decide_eq_false h1, decide_eq_true h2, cond_true, cond_false]
    simp only [if_neg h1, if_pos h2] at hbad
    exact hbad (by decide)
  simp only [decide_eq_false h1, decide_eq_false h2, cond_false]
  simp only [if_neg h1, if_neg h2] at hbad hfin
  refine ⟨by simp [-Bool.exists_bool, isC, h], d.rlast, by simp [-Bool.exists_bool, rd, cellsOf, h], ?_⟩
  cases hl : d.last with
  | none =>
    have e : ¬ d.rlast ≥ 0 := by simp [-Bool.exists_bool, D.rlast, hl]
    simp only [decide_eq_false e, cond_false]
    rw [hl] at hfin
    exact hfin rfl
  | some x =>
    have hx := hg.last x hl
    have er : d.rlast = x := by simp [-Bool.exists_bool, D.rlast, hl]
    have e : d.rlast ≥ 0 := by omega
    simp only [decide_eq_true e, cond_true]
    refine ⟨by simp [-Bool.exists_bool, isC, h], d.rlast, by simp [-Bool.exists_bool, rd, cellsOf, h], ?_⟩
    rw [hl] at hfin hbad
    rw [er]
    by_cases h3 : now ≤ x
    · simp only [decide_eq_true h3, cond_true]
      simp only [if_pos h3] at hbad
      exact hbad (by decide)
    · simp only [decide_eq_false h3, cond_false]
      simp only [if_neg h3] at hfin
      exact hfin trivial
theorem same28_c {m : Mem} {n w s o : Nat} {d : D} {Q : Value → Mem → Nat → Prop} (hw : Wat m w s d) (hr : Rat m o d) (hq : ∀ n', n ≤ n' → Q (.bool true) m n') : Wc Try.prog 28 [pp w, pp o] m n Q := by
  refine Wc_of mixed (cfg := d12xcfg) (fuel := 400) ?_
  rw [d12x28]
  refine due_c hw fun n1 hn1 => ⟨_, _, rfl, Later.mk ?_⟩
  refine rdue_c hr fun n2 hn2 => ⟨_, _, rfl, Later.mk ?_⟩
  unfold Rat at hr
  refine ⟨_, _, _, up_c hw ⟨rfl, rfl, rfl⟩, Later.mk ⟨by simp [-Bool.exists_bool, isC, hr], _, by simp [-Bool.exists_bool, rd, cellsOf, hr]; exact rfl, ?_⟩⟩
  simp only [beq_self_eq_true, cond_true]
  refine ⟨_, _, _, since_c hw ⟨rfl, rfl, rfl⟩, Later.mk ⟨by simp [-Bool.exists_bool, isC, hr], _, by simp [-Bool.exists_bool, rd, cellsOf, hr]; exact rfl, ?_⟩⟩
  simp only [beq_self_eq_true, cond_true]
  refine ⟨_, _, _, changes_c hw ⟨rfl, rfl, rfl⟩, Later.mk ⟨by simp [-Bool.exists_bool, isC, hr], _, by simp [-Bool.exists_bool, rd, cellsOf, hr]; exact rfl, ?_⟩⟩
  simp only [beq_self_eq_true, cond_true]
  simp [-Bool.exists_bool, rd, cellsOf, hr, isC]
  exact hq _ (by omega)
theorem copy_c {m : Mem} {n w s : Nat} {d : D} {Q : Value → Mem → Nat → Prop} (h : Wat m w s d) (hf : ∀ i, n ≤ i → m.get i = none)
    (hq : ∀ m' n' w', n ≤ w' → n < n' → Wat m' w' n d → Fr m n m' n' (fun _ => False) → Q (pp w') m' n') : Wc Try.prog 25 [pp w] m n Q := by
  refine Wc_of mixed (cfg := d12xcfg) (fuel := 400) ?_
  rw [d12x25]
  obtain ⟨hw, p, hs, hl⟩ := h
  have hws := lt_of_get hf hw
  have hss := lt_of_get hf hs
  have a1 : ¬ n = w := by omega
  have a2 : ¬ n = s := by omega
  cases hd : d.last with
  | none =>
    rw [hd] at hl
    have hl : p = none := hl
    subst hl
    simp [-Bool.exists_bool, rd, rds, takeAt, isC, cellsOf, hw, hs, storeCs, cellOk, Tr.get_set]
    refine ⟨_, _, _, _, _, _, _, ⟨rfl, rfl, rfl, rfl, rfl, rfl, rfl⟩, ?_⟩
    simp [-Bool.exists_bool]
    refine hq _ _ (n + 1) (by omega) (by omega) ⟨by simp [-Bool.exists_bool, Tr.get_set], none, ?_, by rw [hd]; exact rfl⟩ ⟨by omega, fun i hi _ => ?_⟩
    · simp [-Bool.exists_bool, Tr.get_set]
    · have e1 : ¬ n = i := by omega
      have e2 : ¬ n + 1 = i := by omega
      simp [-Bool.exists_bool, Tr.get_set, e1, e2]
  | some x =>
    rw [hd] at hl
    obtain ⟨l, rfl, hl⟩ := hl
    have hll := lt_of_get hf hl
    have a3 : ¬ n = l := by omega
    simp [-Bool.exists_bool, rd, rds, takeAt, isC, cellsOf, hw, hs, storeCs, cellOk, Tr.get_set]
    refine ⟨_, _, _, _, _, _, _, ⟨rfl, rfl, rfl, rfl, rfl, rfl, rfl⟩, ?_⟩
    simp [-Bool.exists_bool, hl, a3]
    refine hq _ _ (n + 1 + 1) (by omega) (by omega) ⟨by simp [-Bool.exists_bool, Tr.get_set], some ⟨n + 1, 0, none⟩, ?_, ?_⟩ ⟨by omega, fun i hi _ => ?_⟩
    · have e0 : ¬ n + 1 + 1 = n := by omega
      simp [-Bool.exists_bool, Tr.get_set, e0]
    · rw [hd]; exact ⟨n + 1, rfl, by simp [-Bool.exists_bool, Tr.get_set]⟩
    · have e1 : ¬ n = i := by omega
      have e2 : ¬ n + 1 = i := by omega
      have e3 : ¬ n + 1 + 1 = i := by omega
      simp [-Bool.exists_bool, Tr.get_set, e1, e2, e3]
theorem Wat.apart {m m' : Mem} {w s s0 : Nat} {d : D} {cs : List Value} (h : Wat m w s d) (h0 : m.get s0 = some (.cells none 62 7 cs)) (hne : s ≠ s0) (hm : ∀ i o, m.get i = some o → i ≠ s0 → m'.get i = m.get i) : Wat m' w s d := by
  obtain ⟨h1, p, h2, h3⟩ := h
  have e1 : w ≠ s0 := by rintro rfl; rw [h0] at h1; simp [-Bool.exists_bool] at h1
  refine ⟨(hm _ _ h1 e1).trans h1, p, (hm _ _ h2 hne).trans h2, h3.mono fun i x hi => hm _ _ hi ?_⟩
  rintro rfl; rw [h0] at hi; simp [-Bool.exists_bool] at hi
theorem Wat.cells {m : Mem} {w s : Nat} {d : D} (h : Wat m w s d) : ∃ cs, m.get s = some (.cells none 62 7 cs) := by
  obtain ⟨_, p, h2, _⟩ := h
  exact ⟨_, h2⟩
theorem Rat.keep {m m' : Mem} {o : Nat} {d : D} (h : Rat m o d) (hm : m'.get o = m.get o) : Rat m' o d := by
  unfold Rat at h ⊢; rw [hm]; exact h
/-- A write to the program's watch leaves the reference's. -/
theorem Rat.keepS {m m' : Mem} {n n' o s : Nat} {d d' : D} {w : Nat} (h : Rat m o d) (hw : Wat m w s d') (hf : ∀ i, n ≤ i → m.get i = none) (hfr : Fr m n m' n' (· = s)) : Rat m' o d := by
  obtain ⟨cs, hs⟩ := hw.cells
  refine h.keep (hfr.2 o (lt_of_get hf h) ?_)
  rintro rfl; unfold Rat at h; rw [hs] at h; simp [-Bool.exists_bool] at h
theorem Wat.keepO {m m' : Mem} {n n' w s o : Nat} {d d' : D} (h : Wat m w s d) (hr : Rat m o d') (hf : ∀ i, n ≤ i → m.get i = none) (hfr : Fr m n m' n' (· = o)) : Wat m' w s d :=
  h.same fun i T sz cs hi hT => hfr.2 i (lt_of_get hf hi) (by rintro rfl; unfold Rat at hr; rw [hr] at hi; cases hi; rcases hT with h | h | h <;> cases h)
theorem Wat.lt {m : Mem} {n w s : Nat} {d : D} (h : Wat m w s d) (hf : ∀ i, n ≤ i → m.get i = none) : w < n ∧ s < n := by
  obtain ⟨h1, p, h2, _⟩ := h
  exact ⟨lt_of_get hf h1, lt_of_get hf h2⟩
theorem awake_run : allTrue (callK Try.prog (fun _ => none) 100000000 15 [] .leaf 0) = true := by kernel_rfl
theorem awake_c {m : Mem} {n : Nat} {Q : Value → Mem → Nat → Prop} (hq : Q (.bool true) m n) : Wc Try.prog 15 [] m n Q := Wc.known mixed awake_run hq

structure DAct where
  kind : Int
  step : Int
  heard : Bool
def encA (x : DAct) : List Value := [.int .i64 x.kind, .int .i64 x.step, .bool x.heard]
theorem encA_len (x : DAct) : (encA x).length = 3 := rfl

/-- What the loop keeps. -/
structure ScSt (m0 : Mem) (n0 : Nat) (m : Mem) (n w s o : Nat) (d : D) : Prop where
  wat : Wat m w s d
  rat : Rat m o d
  good : d.good
  ls : n0 ≤ s
  lo : n0 ≤ o
  le : Le m0 n0 m n

@[reducible] noncomputable def fr7 (la : Option Addr) (ll lc : Nat) (w o : Nat) (now i : Int) : AFrame :=
  { fn := 7, nt := 131, slots := [(1, .slice la ll lc), (5, pp w), (7, pp o), (9, .int .i64 now), (10, .int .i64 i)], todo := pt Try.prog 7 [1, 1, 1, 1, 1, 1, 0, 1, 0, 0] }
theorem script_loop {m0 : Mem} {n0 : Nat} {la : Option Addr} {lc : Nat} {acts : List DAct} {Q : Value → Mem → Nat → Prop} (hl : acts.length ≤ 200) (hv : Sl m0 n0 la lc (acts.flatMap encA)) (hq : ∀ m n, Q (.bool true) m n) :
    ∀ j i m n w s o d now, i + j = acts.length → ScSt m0 n0 m n w s o d → W Try.prog (fr7 la acts.length lc w o now i) m n Q := by
  intro j
  induction j with
  | zero =>
    intro i m n w s o d now hi hst
    refine W_of mixed (cfg := d12xcfg) (fuel := 400) ?_
    rw [d12x7k0]
    have h0 : ¬ ((i : Int) < acts.length) := by omega
    simp only [Option.isNone_some, Bool.not_false, cond_true, decide_eq_false h0, cond_false]
    exact awake_c ⟨_, rfl, Later.mk (hq _ _)⟩
  | succ j ih =>
    intro i m n w s o d now hi hst
    refine W.fresh fun hf => W_of mixed (cfg := d12xcfg) (fuel := 400) ?_
    rw [d12x7k0]
    have h0 : ((i : Int) < acts.length) := by omega
    have hlt : i < acts.length := by omega
    have hwi : IntKind.i64.wrap ((i : Int) + 1) = ((i + 1 : Nat) : Int) := by rw [wrap_id (by omega) (by omega)]; omega
    have hget : acts[i]? = some acts[i] := by simp [-Bool.exists_bool]
    have c0 := flatMap_get encA_len acts hget 0 (by omega)
    have c1 := flatMap_get encA_len acts hget 1 (by omega)
    have c2 := flatMap_get encA_len acts hget 2 (by omega)
    have hin : 0 ≤ (i : Int) ∧ (i : Int) < acts.length := by omega
    obtain ⟨hwat, hrat, hgood, hls, hlo, hle⟩ := hst
    have at0 := fun {m' : Mem} {n' : Nat} (h : Le m0 n0 m' n') => (hv.le h).at c0
    have at1 := fun {m' : Mem} {n' : Nat} (h : Le m0 n0 m' n') => (hv.le h).at c1
    have at2 := fun {m' : Mem} {n' : Nat} (h : Le m0 n0 m' n') => (hv.le h).at c2
    have isc : ∀ {m' : Mem} {b : Nat}, liveAt m' b = true → isC m' b = true := fun {m' b} h => by
      unfold liveAt at h; unfold isC
      split at h <;> simp_all
    simp only [Option.isNone_some, Bool.not_false, cond_true, decide_eq_true h0, Int.toNat_natCast, Nat.add_zero]
    obtain ⟨b, of', sp, rfl, k1, k2, k3⟩ := at0 hle
    simp only [elimA_some]
    refine ⟨⟨hin.1, hin.2, k1, k2⟩, isc k1, _, by simpa [-Bool.exists_bool] using k3, ?_⟩
    refine pick_c (by omega) ⟨_, rfl, Later.mk ?_⟩
    have fin : ∀ m' n' w' s' o' d' now', ScSt m0 n0 m' n' w' s' o' d' → Wc Try.prog 28 [pp w', pp o'] m' n' fun v m2 n2 => ∃ bb, v = .bool bb ∧ Later (bif !bb then Q (.bool false) m2 n2 else
        W Try.prog (fr7 (some ⟨b, of', sp⟩) acts.length lc w' o' now' (IntKind.i64.wrap ((i : Int) + 1))) m2 n2 Q) := fun m' n' w' s' o' d' now' h => by
      refine same28_c h.wat h.rat fun n2 hn2 => ⟨_, rfl, Later.mk ?_⟩
      simp only [Bool.not_true, cond_false]
      rw [hwi]
      exact ih (i + 1) m' n2 w' s' o' d' now' (by omega) ⟨h.wat, h.rat, h.good, h.ls, h.lo, h.le.up hn2⟩
    have tk : ∀ (now' : Int) (hd : Bool), Wc Try.prog 11 [pp w, .int .i64 now', .bool hd] m n fun v m1 n1 => ∃ (p : Bool) (q : Int), v = .tuple ⟨[.bool p, .int .i64 q]⟩ ∧ Later (
        (p = d.out now' hd ∧ q = d.err now') ∧ Wat m1 w s (d.tick now' hd) ∧ Rat m1 o d ∧ Le m0 n0 m1 n1 ∧ ∀ i, n1 ≤ i → m1.get i = none) := fun now' hd => by
      refine Wc.after (tick_c hwat hgood.ok.mode fun m1 n1 hw1 hfr hf1 => ⟨_, _, rfl, Later.mk ⟨⟨rfl, rfl⟩, hw1, hrat.keepS hwat hf hfr, ⟨by have := hle.le; have := hfr.1; omega, fun i hi => (hfr.2 i (by have := hle.le; omega) (by omega)).trans (hle.same i hi)⟩, hf1⟩⟩)
    by_cases h5 : pickM acts[i].kind 7 = 5
    · -- Reset
      simp only [h5, beq_self_eq_true, cond_true]
      refine Wc.after (reset_c hwat fun m1 n1 hw1 hfr hf1 => ⟨_, rfl, Later.mk ?_⟩)
      simp only [bne_self_eq_false, cond_false]
      have hr1 := hrat.keepS hwat hf hfr
      refine rreset_c hr1 hgood.ok.mult hf1 fun m2 n2 hr2 hfr2 => ⟨rfl, Later.mk ?_⟩
      have hw2 := hw1.keepO hr1 hf1 hfr2
      refine fin m2 n2 w s o _ _ ⟨hw2, hr2, good_init hgood.ok.mult, hls, hlo, ?_⟩
      exact ⟨by have := hle.le; have := hfr.1; have := hfr2.1; omega, fun i hi => (hfr2.2 i (by have := hle.le; have := hfr.1; omega) (by omega)).trans ((hfr.2 i (by have := hle.le; omega) (by omega)).trans (hle.same i hi))⟩
    have h5' : (pickM acts[i].kind 7 == 5) = false := by simp [-Bool.exists_bool, h5]
    simp only [h5', cond_false]
    by_cases h6 : pickM acts[i].kind 7 = 6
    · -- Copy
      simp only [h6, beq_self_eq_true, cond_true]
      have hwl := hwat.lt hf
      refine Wc.after (copy_c hwat hf fun m1 n1 w1 hw1n hn1 hw1 hfr1 hf1 => ⟨_, rfl, Later.mk ?_⟩)
      have hwold : Wat m1 w s d := hwat.same fun i _ _ _ hi _ => hfr1.2 i (lt_of_get hf hi) (fun h => h)
      have hrold : Rat m1 o d := hrat.keep (hfr1.2 o (lt_of_get hf hrat) (fun h => h))
      refine Wc.after (rcopy_c hrold fun m2 hr2 hfr2 hf2 => ⟨_, rfl, Later.mk ?_⟩)
      have hwold2 : Wat m2 w s d := hwold.same fun i _ _ _ hi _ => hfr2.2 i (lt_of_get hf1 hi) (fun h => h)
      have hwnew2 : Wat m2 w1 n d := hw1.same fun i _ _ _ hi _ => hfr2.2 i (lt_of_get hf1 hi) (fun h => h)
      have hle2 : Le m0 n0 m2 (n1 + 1) := ⟨by have := hle.le; omega, fun i hi => (hfr2.2 i (by have := hle.le; omega) (fun h => h)).trans ((hfr1.2 i (by have := hle.le; omega) (fun h => h)).trans (hle.same i hi))⟩
      -- what the old watch does
      have old : ∀ {ma mb : Mem} {na nb : Nat} {da : D}, Wat ma w s da → Wat ma w1 n d → Rat ma n1 d → Le m0 n0 ma na → (∀ i, na ≤ i → ma.get i = none) → Fr ma na mb nb (· = s) → Wat mb w1 n d ∧ Rat mb n1 d ∧ Le m0 n0 mb nb := by
        intro ma mb na nb da hwa hna hra hla hfa hfr
        obtain ⟨cs, hcs⟩ := hwa.cells
        refine ⟨hna.apart hcs (by omega) fun i o hi hne => hfr.2 i (lt_of_get hfa hi) hne, hra.keepS hwa hfa hfr, ⟨Nat.le_trans hla.le hfr.1, fun i hi => (hfr.2 i (by have := hla.le; omega) (by omega)).trans (hla.same i hi)⟩⟩
      refine Wc.after (tick_c hwold2 hgood.ok.mode fun m3 n3 hw3 hfr3 hf3 => ⟨_, _, rfl, Later.mk ?_⟩)
      obtain ⟨a1, a2, a3⟩ := old hwold2 hwnew2 hr2 hle2 hf2 hfr3
      have hg3 := good_tick hgood (IntKind.i64.wrap (now + 1)) true
      refine Wc.after (tick_c hw3 hg3.ok.mode fun m4 n4 hw4 hfr4 hf4 => ⟨_, _, rfl, Later.mk ?_⟩)
      obtain ⟨b1, b2, b3⟩ := old hw3 a1 a2 a3 hf3 hfr4
      refine Wc.after (reset_c hw4 fun m5 n5 hw5 hfr5 hf5 => ⟨_, rfl, Later.mk ?_⟩)
      obtain ⟨c1, c2, c3⟩ := old hw4 b1 b2 b3 hf4 hfr5
      exact fin m5 n5 w1 n n1 d _ ⟨c1, c2, hgood, by have := hle.le; omega, by have := hle.le; omega, c3⟩
    have h6' : (pickM acts[i].kind 7 == 6) = false := by simp [-Bool.exists_bool, h6]
    simp only [h6', cond_false]
    have tick : ∀ now', Wc Try.prog 11 [pp w, .int .i64 now', .bool acts[i].heard] m n fun v m1 n1 => ∃ (p : Bool) (q : Int), v = .tuple ⟨[.bool p, .int .i64 q]⟩ ∧ Later (
        elimA (some ⟨b, of', sp⟩) False fun b o' sp => (0 ≤ (i : Int) ∧ (i : Int) < acts.length ∧ liveAt m1 b = true ∧ (sp ≠ none → 0 < lc)) ∧ isC m1 b = true ∧ ∃ h, rd m1 b (offOf o' sp + i * 3 + 2) = some (.bool h) ∧
          Wc Try.prog 27 [pp o, .int .i64 now', .bool h] m1 n1 fun v m2 n2 => ∃ (p' : Bool) (q' : Int), v = .tuple ⟨[.bool p', .int .i64 q']⟩ ∧ Later (bif !p == p' then Q (.bool false) m2 n2 else bif q != q' then Q (.bool false) m2 n2 else
            Wc Try.prog 28 [pp w, pp o] m2 n2 fun v m3 n3 => ∃ b', v = .bool b' ∧ Later (bif !b' then Q (.bool false) m3 n3 else W Try.prog (fr7 (some ⟨b, of', sp⟩) acts.length lc w o now' (IntKind.i64.wrap ((i : Int) + 1))) m3 n3 Q))) := fun now' => by
      refine (tk now' acts[i].heard).mono fun v m1 n1 ⟨p, q, hv, h⟩ => ⟨p, q, hv, ?_⟩
      obtain ⟨⟨rfl, rfl⟩, hw1, hr1, hle1, hf1⟩ := h
      refine Later.mk ?_
      obtain ⟨b', of'', sp', e, l1, l2, l3⟩ := at2 hle1
      cases e
      simp only [elimA_some]
      refine ⟨⟨hin.1, hin.2, l1, l2⟩, isc l1, _, by simpa [-Bool.exists_bool, Nat.add_assoc] using l3, ?_⟩
      refine rtick_c hr1 hgood fun m2 n2 hr2 hfr2 => ⟨_, _, rfl, Later.mk ?_⟩
      have e1 : ∀ x : Bool, (!x == x) = false := by decide
      simp only [e1, bne_self_eq_false, cond_false]
      exact fin m2 n2 w s o _ _ ⟨hw1.keepO hr1 hf1 hfr2, hr2, good_tick hgood _ _, hls, hlo, ⟨by have := hle1.le; have := hfr2.1; omega, fun i hi => (hfr2.2 i (by have := hle1.le; omega) (by omega)).trans (hle1.same i hi)⟩⟩
    obtain ⟨_, _, _, e, l1, l2, l3⟩ := at1 hle
    cases e
    obtain ⟨_, _, _, e, q1, q2, q3⟩ := at2 hle
    cases e
    by_cases h4 : pickM acts[i].kind 7 = 4
    · simp only [h4, beq_self_eq_true, cond_true]
      exact ⟨⟨hin.1, hin.2, l1, l2⟩, isc l1, _, by simpa [-Bool.exists_bool, Nat.add_assoc] using l3, ⟨hin.1, hin.2, l1, l2⟩, isc l1, _, by simpa [-Bool.exists_bool, Nat.add_assoc] using q3, tick _⟩
    · have h4' : (pickM acts[i].kind 7 == 4) = false := by simp [-Bool.exists_bool, h4]
      simp only [h4', cond_false]
      exact ⟨⟨hin.1, hin.2, l1, l2⟩, isc l1, _, by simpa [-Bool.exists_bool, Nat.add_assoc] using l3, ⟨hin.1, hin.2, l1, l2⟩, isc l1, _, by simpa [-Bool.exists_bool, Nat.add_assoc] using q3, tick _⟩
theorem new_bad {m : Mem} {n : Nat} {k : Int} {Q : Value → Mem → Nat → Prop} (hk : ¬ (1 ≤ k ∧ k ≤ 1000)) (hq : Q (.tuple ⟨[.pointer none, .int .i64 2]⟩) m n) : Wc Try.prog 9 [.int .i64 k] m n Q := by
  refine Wc_of mixed (cfg := d12xcfg) (fuel := 400) ?_
  rw [d12x9]
  by_cases h1 : k < 1
  · simp [-Bool.exists_bool, h1]; exact hq
  · have h2 : k > 1000 := by omega
    simp [-Bool.exists_bool, h1, h2]; exact hq
theorem rnew_bad {m : Mem} {n : Nat} {k : Int} {Q : Value → Mem → Nat → Prop} (hk : ¬ (1 ≤ k ∧ k ≤ 1000)) (hq : Q (.tuple ⟨[.pointer none, .int .i64 2]⟩) m n) : Wc Try.prog 23 [.int .i64 k] m n Q := by
  refine Wc_of mixed (cfg := d12xcfg) (fuel := 400) ?_
  rw [d12x23]
  by_cases h1 : k < 1
  · simp [-Bool.exists_bool, h1]; exact hq
  · have h2 : k > 1000 := by omega
    simp [-Bool.exists_bool, h1, h2]; exact hq
theorem script_end {la : Option Addr} {ll lc : Nat} {m : Mem} {n : Nat} {Q : Value → Mem → Nat → Prop} (hq : ∀ m n, Q (.bool true) m n) :
    W Try.prog { fn := 7, nt := 131, slots := [(1, .slice la ll lc), (5, .pointer none), (7, .pointer none), (9, .int .i64 0), (10, .int .i64 0)], todo := pt Try.prog 7 [1, 1, 1, 1, 1, 1, 0, 1, 0, 0] } m n Q := by
  refine W_of mixed (cfg := d12xcfg) (fuel := 400) ?_
  rw [d12x7k0]
  simp only [Option.isNone_none, Bool.not_true, cond_false]
  exact awake_c ⟨_, rfl, Later.mk (hq _ _)⟩
theorem script_c {m : Mem} {n : Nat} {x : Int} {la : Option Addr} {lc : Nat} {acts : List DAct} {Q : Value → Mem → Nat → Prop} (hv : Sl m n la lc (acts.flatMap encA)) (hq : ∀ m n, Q (.bool true) m n) :
    Wc Try.prog 7 [.int .i64 x, .slice la acts.length lc] m n Q := by
  refine Wc_of mixed (cfg := d12xcfg) (fuel := 400) ?_
  rw [d12x7]
  by_cases hl : ((acts.length : Nat) : Int) > 200
  · simp only [decide_eq_true hl, cond_true]
    exact awake_c ⟨_, rfl, Later.mk (hq _ _)⟩
  simp only [decide_eq_false hl, cond_false]
  by_cases hk : 1 ≤ x ∧ x ≤ 1000
  · refine Wc.after (new_c hk fun m1 n1 w s hw hnw hns hfr hf1 => ⟨_, _, rfl, Later.mk ?_⟩)
    refine rnew_c hk fun m2 hr hfr2 => ⟨_, _, rfl, Later.mk ?_⟩
    have e0 : (!false == false) = false := rfl
    simp only [bne_self_eq_false, cond_false, Option.isNone_some, e0]
    have hw2 : Wat m2 w s (D.init x) := hw.same fun i _ _ _ hi _ => hfr2.2 i (lt_of_get hf1 hi) (fun h => h)
    exact script_loop (by omega) hv hq acts.length 0 m2 (n1 + 1) w s n1 (D.init x) 0 (by omega) ⟨hw2, hr, good_init hk, hns, hfr.1, ⟨by have := hfr.1; omega, fun i hi => (hfr2.2 i (by have := hfr.1; omega) (fun h => h)).trans (hfr.2 i hi (fun h => h))⟩⟩
  · refine new_bad hk ⟨_, _, rfl, Later.mk ?_⟩
    refine rnew_bad hk ⟨_, _, rfl, Later.mk ?_⟩
    have e0 : (!true == true) = false := rfl
    simp only [bne_self_eq_false, cond_false, Option.isNone_none, e0]
    exact script_end hq
theorem sund3 : Try.prog.underlying 3 = some (.int .i64) := by kernel_rfl
theorem sund4 : Try.prog.underlying 4 = some .bool := by kernel_rfl
theorem sund44 : Try.prog.underlying 44 = some (.slice 49) := by kernel_rfl
theorem sund49 : fieldTys Try.prog 49 = some [3, 3, 4] := by kernel_rfl
theorem act_of {m : Mem} {f : Nat} {cs : List Value} (h : TyC Try.prog m f 49 cs) : ∃ a, cs = encA a := by
  obtain ⟨g, parts, rfl, hlen, hp⟩ := TyC.fields sund49 h
  match parts, hlen with
  | [p0, p1, p2], _ =>
    obtain ⟨x, rfl, _⟩ := TyC.int sund3 (hp 0 3 p0 rfl rfl)
    obtain ⟨y, rfl, _⟩ := TyC.int sund3 (hp 1 3 p1 rfl rfl)
    obtain ⟨z, rfl⟩ := TyC.bool sund4 (hp 2 4 p2 rfl rfl)
    exact ⟨⟨x, y, z⟩, rfl⟩
set_option maxRecDepth 1000000 in
theorem detectScript_main (m : Mem) (n : Nat) (ars : List Value) (hl : ars.length = ([3, 44] : List TypeId).length) (ht : ∀ (j : Nat) t a, ([3, 44] : List TypeId)[j]? = some t → ars[j]? = some a → TyV Try.prog m t a)
    (_ : ∀ i o, m.get i = some o → own o = false) (hfresh : ∀ i, n ≤ i → m.get i = none) : Wc Try.prog 7 ars m n fun v _ _ => v = .bool true := by
  match ars, hl with
  | [a, b], _ =>
    have ha : TyV Try.prog m 3 a := ht 0 3 a (by simp [-Bool.exists_bool]) (by simp [-Bool.exists_bool])
    have hb : TyV Try.prog m 44 b := ht 1 44 b (by simp [-Bool.exists_bool]) (by simp [-Bool.exists_bool])
    obtain ⟨x, rfl, _⟩ := TyV.int sund3 ha
    obtain ⟨id, len, cap, nl, es, f, rfl, h1, h2, h3, h4, h5, h6⟩ := TyV.slice sund44 hb
    obtain ⟨acts, e1, e2⟩ := rows_enc (enc := encA) fun x hx => act_of (h6 x hx).2
    rw [e1] at h4
    obtain rfl : len = acts.length := by omega
    exact script_c (Sl.in_ h4 (lt_of_get hfresh h4)) fun _ _ => rfl
end Go.Proofs.Ytpiiddoccloghaa
