/- R12: what parts of the program compute; helper of the claim. -/
import Derived.Test.YtpiiddoccloghaaQ12
namespace Go.Proofs.Ytpiiddoccloghaa
open Go Go.Ab

def pickM (x n : Int) : Int := if x.tmod n < 0 then IntKind.i64.wrap (x.tmod n + n) else x.tmod n
theorem pickM_range {x n : Int} (hn : 0 < n) (hb : n ≤ 100000) : 0 ≤ pickM x n ∧ pickM x n < n := by
  unfold pickM
  have h1 := Int.tmod_lt_of_pos x hn
  have h2 : -n < x.tmod n := by
    have := Int.lt_tmod_of_pos x hn
    omega
  split
  · rw [wrap_id (by omega) (by omega)]; omega
  · omega
theorem pick_c {m : Mem} {n : Nat} {x k : Int} {Q : Value → Mem → Nat → Prop} (hk : 0 < k) (hq : Q (.int .i64 (pickM x k)) m n) : Wc Try.prog 16 [.int .i64 x, .int .i64 k] m n Q := by
  refine Wc_of mixed (cfg := d12xcfg) (fuel := 400) ?_
  rw [d12x16]
  unfold pickM at hq
  refine ⟨by omega, ?_⟩
  by_cases h : x.tmod k < 0
  · rw [if_pos h] at hq; simp [-Bool.exists_bool, h]; exact hq
  · rw [if_neg h] at hq; simp [-Bool.exists_bool, h]; exact hq

def D.init (mult : Int) : D := ⟨mult, 0, none, false, 0, 0, 0⟩
theorem new_c {m : Mem} {n : Nat} {k : Int} {Q : Value → Mem → Nat → Prop} (hk : 1 ≤ k ∧ k ≤ 1000)
    (hq : ∀ m' n' w s, Wat m' w s (D.init k) → n ≤ w → n ≤ s → Fr m n m' n' (fun _ => False) → Q (.tuple ⟨[pp w, .int .i64 0]⟩) m' n') : Wc Try.prog 9 [.int .i64 k] m n Q := by
  refine Wc_of mixed (cfg := d12xcfg) (fuel := 400) ?_
  rw [d12x9]
  have h1 : ¬ k < 1 := by omega
  have h2 : ¬ k > 1000 := by omega
  simp [-Bool.exists_bool, h1, h2]
  refine hq _ _ (n + 1) n ⟨by simp [-Bool.exists_bool, Tr.get_set], none, by simp [-Bool.exists_bool, Tr.get_set, D.init], rfl⟩ (by omega) (by omega) ⟨by omega, fun i hi _ => ?_⟩
  have e1 : ¬ n = i := by omega
  have e2 : ¬ n + 1 = i := by omega
  simp [-Bool.exists_bool, Tr.get_set, e1, e2]

set_option maxRecDepth 1000000 in
theorem known_run : allTrue (callK Try.prog (fun _ => none) 100000000 3 [] .leaf 0) = true := by kernel_rfl
theorem known_c {m : Mem} {n : Nat} {Q : Value → Mem → Nat → Prop} (hq : Q (.bool true) m n) : Wc Try.prog 3 [] m n Q := Wc.known mixed known_run hq

/-- The law's own reckoning. -/
def runsAt (hs : List Bool) (mult : Int) : Nat → Bool × Int
  | 0 => (false, 0)
  | k + 1 =>
    let s := if hs.getD k false then 0 else (runsAt hs mult k).2 + 1
    (if 0 < k ∧ hs.getD k false = true ∧ hs.getD (k - 1) false = true then true else if s ≥ mult then false else (runsAt hs mult k).1, s)
theorem runsAt_bound (hs : List Bool) (mult : Int) : ∀ k, 0 ≤ (runsAt hs mult k).2 ∧ (runsAt hs mult k).2 ≤ k
  | 0 => ⟨Int.le_refl _, Int.le_refl _⟩
  | k + 1 => by
    have := runsAt_bound hs mult k
    simp only [runsAt]
    split <;> omega

theorem D.run_append (d : D) (t : Int) (l1 l2 : List Bool) : d.run t (l1 ++ l2) = (d.run t l1).run (t + l1.length) l2 := by
  induction l1 generalizing d t with
  | nil => simp [-Bool.exists_bool, D.run]
  | cons b l ih =>
    have e : t + 1 + (l.length : Int) = t + ((b :: l).length : Int) := by simp; omega
    simp only [List.cons_append, D.run]; rw [ih, e]
theorem D.ups_append (d : D) (t : Int) (l1 l2 : List Bool) : d.ups t (l1 ++ l2) = d.ups t l1 ++ (d.run t l1).ups (t + l1.length) l2 := by
  induction l1 generalizing d t with
  | nil => simp [-Bool.exists_bool, D.run, D.ups]
  | cons b l ih =>
    have e : t + 1 + (l.length : Int) = t + ((b :: l).length : Int) := by simp; omega
    simp only [List.cons_append, D.run, D.ups]; rw [ih, e]
theorem D.ups_length (d : D) (t : Int) (l : List Bool) : (d.ups t l).length = l.length := by
  induction l generalizing d t with
  | nil => rfl
  | cons b l ih => simp [-Bool.exists_bool, D.ups, ih]

/-- What the watch knows after k ticks. -/
structure Knows (hs : List Bool) (t mult : Int) (k : Nat) (d : D) : Prop where
  hmult : d.mult = mult
  hmode : d.mode = if (runsAt hs mult k).1 = true then 1 else 0
  hlast : d.last = if k = 0 then none else some (t + k - 1)
  hheard : 0 < k → d.heard = hs.getD (k - 1) false
  hat : (runsAt hs mult k).1 = true → d.heardAt = t + k - 1 - (runsAt hs mult k).2

theorem knows_zero {hs : List Bool} {t mult : Int} : Knows hs t mult 0 (D.init mult) := ⟨rfl, rfl, rfl, fun h => absurd h (Nat.lt_irrefl 0), fun h => by simp [-Bool.exists_bool, runsAt] at h⟩

theorem knows_chg {hs : List Bool} {t mult : Int} {k : Nat} {d : D} (ht : 0 ≤ t ∧ t ≤ 100000) (hm : 1 ≤ mult ∧ mult ≤ 1000) (hk : k ≤ 100000) (h : Knows hs t mult k d) :
    d.chg (t + k) (hs.getD k false) = ((runsAt hs mult k).1 != (runsAt hs mult (k + 1)).1) := by
  obtain ⟨h1, h2, h3, h4, h5⟩ := h
  have hb := runsAt_bound hs mult k
  have hw1 : IntKind.i64.wrap (t + k - 1) = t + k - 1 := wrap_id (by omega) (by omega)
  simp only [runsAt]
  cases hc : (runsAt hs mult k).1 with
  | true =>
    have h5 := h5 hc
    have hm1 : d.mode = 1 := by rw [h2, hc]; rfl
    have hw2 : IntKind.i64.wrap (d.heardAt + d.mult) = d.heardAt + d.mult := wrap_id (by omega) (by omega)
    have e1 : ¬ ((1 : Int) = 0) := by decide
    simp only [D.chg, hm1, D.fall, hw2, if_neg e1]
    cases hh : hs.getD k false with
    | true =>
      have e2 : ¬ (0 ≥ mult) := by omega
      simp [-Bool.exists_bool, e2]
    | false =>
      simp only [Bool.false_eq_true, if_false, false_and, and_false]
      by_cases hx : (runsAt hs mult k).2 + 1 ≥ mult
      · have : t + k ≥ d.heardAt + d.mult := by omega
        simp [-Bool.exists_bool, hx, this]
      · have : ¬ t + k ≥ d.heardAt + d.mult := by omega
        simp only [if_neg hx, decide_eq_false this]; rfl
  | false =>
    have hm0 : d.mode = 0 := by rw [h2, hc]; rfl
    simp only [D.chg, hm0, D.rise, if_true]
    cases hh : hs.getD k false with
    | true =>
      have e2 : ¬ (0 ≥ mult) := by omega
      rcases Nat.eq_zero_or_pos k with rfl | hp
      · simp [-Bool.exists_bool, h3, e2]
      · have hk0 : ¬ k = 0 := by omega
        rw [h3, if_neg hk0, h4 hp, hw1]
        cases hq : hs.getD (k - 1) false <;> simp [-Bool.exists_bool, hp, e2]
    | false =>
      simp [-Bool.exists_bool]
theorem knows_next {hs : List Bool} {t mult : Int} {k : Nat} {d : D} (ht : 0 ≤ t ∧ t ≤ 100000) (hm : 1 ≤ mult ∧ mult ≤ 1000) (hk : k ≤ 100000) (h : Knows hs t mult k d) : Knows hs t mult (k + 1) (d.next (t + k) (hs.getD k false)) := by
  have hchg := knows_chg ht hm hk h
  obtain ⟨h1, h2, h3, h4, h5⟩ := h
  have hb := runsAt_bound hs mult k
  have w0 : IntKind.i64.wrap (1 - 0) = 1 := by decide
  have w1 : IntKind.i64.wrap (1 - 1) = 0 := by decide
  refine ⟨h1, ?_, ?_, fun _ => rfl, fun hc => ?_⟩
  · simp only [D.next]
    rw [hchg, h2]
    cases (runsAt hs mult k).1 <;> cases (runsAt hs mult (k + 1)).1 <;> first | rfl | exact w0 | exact w1
  · have e : ¬ k + 1 = 0 := by omega
    simp only [D.next, if_neg e]
    congr 1
    omega
  · simp only [D.next]
    cases hh : hs.getD k false with
    | true =>
      have e : (runsAt hs mult (k + 1)).2 = 0 := by simp only [runsAt, hh, if_true]
      rw [e, if_pos rfl]; omega
    | false =>
      have e : (runsAt hs mult (k + 1)).2 = (runsAt hs mult k).2 + 1 := by simp only [runsAt, hh]; rfl
      have hp : (runsAt hs mult k).1 = true := by
        simp only [runsAt, hh] at hc
        simp [-Bool.exists_bool] at hc
        exact hc.2
      rw [e, if_neg (by decide), h5 hp]; omega
theorem D.run_snoc (d : D) (t : Int) (l : List Bool) (b : Bool) : d.run t (l ++ [b]) = (d.run t l).next (t + l.length) b := by
  rw [D.run_append]; rfl
theorem knows_err {hs : List Bool} {t mult : Int} {k : Nat} {d : D} (ht : 0 ≤ t ∧ t ≤ 100000) (hk : k ≤ 100000) (h : Knows hs t mult k d) : d.err (t + k) = 0 := by
  obtain ⟨h1, h2, h3, h4, h5⟩ := h
  have e1 : ¬ t + k < 0 := by omega
  have e2 : ¬ t + k > 1099511627776 := by omega
  simp only [D.err, if_neg e1, if_neg e2]
  rw [h3]
  by_cases hk0 : k = 0
  · simp [-Bool.exists_bool, hk0]
  · rw [if_neg hk0]
    have e3 : ¬ t + k ≤ t + k - 1 := by omega
    simp only [if_neg e3]
theorem knows_run {hs : List Bool} {t mult : Int} (ht : 0 ≤ t ∧ t ≤ 100000) (hm : 1 ≤ mult ∧ mult ≤ 1000) (hl : hs.length ≤ 100000) : ∀ k, k ≤ hs.length → Knows hs t mult k ((D.init mult).run t (hs.take k))
  | 0, _ => knows_zero
  | k + 1, hk => by
    have h := knows_run ht hm hl k (by omega)
    have e : hs.take (k + 1) = hs.take k ++ [hs.getD k false] := by
      rw [List.take_add_one]
      simp [-Bool.exists_bool, List.getD, List.getElem?_eq_getElem (show k < hs.length by omega)]
    rw [e, D.run_snoc]
    have e2 : ((hs.take k).length : Int) = k := by rw [List.length_take]; omega
    rw [e2]
    exact knows_next ht hm (by omega) h
end Go.Proofs.Ytpiiddoccloghaa
