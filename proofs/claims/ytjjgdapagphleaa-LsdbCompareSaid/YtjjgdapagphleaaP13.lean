/- P13: what parts of the program compute; helper of the claim. -/
import Derived.Test.YtjjgdapagphleaaE13
import Derived.Test.YtjjgdapagphleaaAb42
namespace Go.Proofs.Ytjjgdapagphleaa
open Go Go.Ab
theorem mixed : Try.prog.follows .mixedOrders = true := by kernel_rfl

abbrev vi (x : Int) : Value := .int .i64 x
/-- The error of a list of links. -/
def ordG : Option Int → List Int → Int
  | _, [] => 0
  | p, x :: l => if x < 0 then 2 else if x ≥ 128 then 2 else match p with
    | some q => if x ≤ q then 10 else ordG (some x) l
    | none => ordG (some x) l
def ordE (xs : List Int) : Int := ordG none xs

theorem ordered_loop {m : Mem} {a : Option Addr} {c : Nat} {xs : List Int} {Q : Value → Mem → Nat → Prop} {n0 : Nat} (hv : Sl m n0 a c (xs.map vi)) (hl : xs.length ≤ 1000) :
    ∀ l pre n, xs = pre ++ l → (∀ n', n ≤ n' → Q (vi (ordG pre.getLast? l)) m n') → W Try.prog { fn := fLsdbordered, nt := 32, slots := [(0, .slice a xs.length c), (5, .slice a xs.length c), (6, .int .i64 xs.length), (7, .int .i64 pre.length)], todo := pt Try.prog fLsdbordered [1, 0, 1, 0, 0] } m n Q := by
  intro l
  induction l with
  | nil =>
    intro pre n h hq
    refine W_of mixed (cfg := xcfg) (fuel := 400) ?_
    rw [xLsdborderedk0]
    have e : ¬ ((pre.length : Int) < xs.length) := by simp [h]
    simp only [decide_eq_false e, cond_false]
    exact hq n (Nat.le_refl _)
  | cons x l ih =>
    intro pre n h hq
    refine W_of mixed (cfg := xcfg) (fuel := 400) ?_
    rw [xLsdborderedk0]
    have hlt : pre.length < xs.length := by simp [h]
    have e : ((pre.length : Int) < xs.length) := by omega
    have hx : xs[pre.length] = x := by simp [h]
    have hw := wrapN (k := pre.length) (by omega)
    simp only [decide_eq_true e, cond_true]
    refine hv.ldi hlt ?_
    rw [hx]
    simp only [ordG] at hq
    by_cases h1 : x < 0
    · simp only [decide_eq_true h1, cond_true]; simpa only [if_pos h1] using hq n (Nat.le_refl _)
    by_cases h2 : x ≥ 128
    · simp only [decide_eq_false h1, decide_eq_true h2, cond_true, cond_false]; simpa only [if_neg h1, if_pos h2] using hq n (Nat.le_refl _)
    simp only [decide_eq_false h1, decide_eq_false h2, cond_false]
    simp only [if_neg h1, if_neg h2] at hq
    have nxt : ∀ hq', W Try.prog _ m n Q := fun hq' => ih (pre ++ [x]) n (by simp [h]) hq'
    have hlast : (pre ++ [x]).getLast? = some x := by simp
    have hlen : ((pre ++ [x]).length : Int) = ((pre.length + 1 : Nat) : Int) := by simp
    rw [hlast, hlen, ← hw] at nxt
    by_cases h3 : (pre.length : Int) > 0
    · have hp := wrapP (k := pre.length) (by omega) (by omega)
      simp only [decide_eq_true h3, cond_true, hp]
      refine hv.ldi (i := pre.length - 1) (by omega) ?_
      have hlst : pre.getLast? = some xs[pre.length - 1] := by
        rw [List.getLast?_eq_getElem?]
        have : pre.length - 1 < pre.length := by omega
        simp [h, List.getElem?_append, List.getElem_append, this]
      rw [hlst] at hq
      simp only at hq
      by_cases h4 : x ≤ xs[pre.length - 1]
      · simp only [decide_eq_true h4, cond_true]; simpa only [if_pos h4] using hq n (Nat.le_refl _)
      · simp only [decide_eq_false h4, cond_false]
        simp only [if_neg h4] at hq
        exact nxt hq
    · have hpre : pre = [] := List.length_eq_zero_iff.1 (by omega)
      simp only [decide_eq_false h3, cond_false]
      subst hpre
      exact nxt hq
theorem ordered_c {m : Mem} {n : Nat} {a : Option Addr} {c : Nat} {xs : List Int} {Q : Value → Mem → Nat → Prop} (hv : Sl m n a c (xs.map vi)) (hl : xs.length ≤ 1000) (hq : Q (vi (ordE xs)) m n) : Wc Try.prog fLsdbordered [.slice a xs.length c] m n Q := by
  refine Wc.scalar (u := vi (ordE xs)) ?_ rfl hq
  refine Wc_of mixed (cfg := xcfg) (fuel := 400) ?_
  rw [xLsdbordered]
  exact ordered_loop hv hl xs [] n rfl fun n' h => ⟨rfl, Le.refl.up h⟩
end Go.Proofs.Ytjjgdapagphleaa
