/- Q13: what parts of the program compute; helper of the claim. -/
import Derived.Test.YtjjgdapagphleaaP13
namespace Go.Proofs.Ytjjgdapagphleaa
open Go Go.Ab

theorem links_loop {m : Mem} {a : Option Addr} {c : Nat} {xs : List Int} {Q : Value → Mem → Nat → Prop} {n0 : Nat} (hv : Sl m n0 a c (xs.map vi)) (hl : xs.length ≤ 1000) :
    ∀ l pre n, xs = pre ++ l → (∀ n', n ≤ n' → Q (vi (ordG pre.getLast? l)) m n') → W Try.prog { fn := fRef13links, nt := 36, slots := [(0, .slice a xs.length c), (3, .int .i64 pre.length)], todo := pt Try.prog fRef13links [1, 0, 1, 0, 0] } m n Q := by
  intro l
  induction l with
  | nil =>
    intro pre n h hq
    refine W_of mixed (cfg := xcfg) (fuel := 400) ?_
    rw [xRef13linksk0]
    have e : ¬ ((pre.length : Int) < xs.length) := by simp [h]
    simp only [decide_eq_false e, cond_false]
    exact hq n (Nat.le_refl _)
  | cons x l ih =>
    intro pre n h hq
    refine W_of mixed (cfg := xcfg) (fuel := 400) ?_
    rw [xRef13linksk0]
    have hlt : pre.length < xs.length := by simp [h]
    have e : ((pre.length : Int) < xs.length) := by omega
    have hx : xs[pre.length] = x := by simp [h]
    have hw := wrapN (k := pre.length) (by omega)
    simp only [decide_eq_true e, cond_true]
    refine hv.ldi hlt ?_
    rw [hx]
    simp only [ordG] at hq
    have nxt : ∀ n' hq', W Try.prog _ m n' Q := fun n' hq' => ih (pre ++ [x]) n' (by simp [h]) hq'
    have hlast : (pre ++ [x]).getLast? = some x := by simp
    have hlen : ((pre ++ [x]).length : Int) = ((pre.length + 1 : Nat) : Int) := by simp
    rw [hlast, hlen, ← hw] at nxt
    by_cases h1 : x < 0
    · simp only [decide_eq_true h1, cond_true]; simpa only [if_pos h1] using hq n (Nat.le_refl _)
    simp only [decide_eq_false h1, cond_false]
    refine hv.ldi hlt ?_
    rw [hx]
    by_cases h2 : x ≥ 128
    · simp only [decide_eq_true h2, cond_true]; simpa only [if_neg h1, if_pos h2] using hq n (Nat.le_refl _)
    simp only [decide_eq_false h2, cond_false]
    simp only [if_neg h1, if_neg h2] at hq
    by_cases h3 : (pre.length : Int) > 0
    · have hp := wrapP (k := pre.length) (by omega) (by omega)
      simp only [decide_eq_true h3, cond_true, hp]
      refine hv.ldi hlt ?_
      refine hv.ldi (i := pre.length - 1) (by omega) ?_
      rw [hx]
      have hlst : pre.getLast? = some xs[pre.length - 1] := by
        rw [List.getLast?_eq_getElem?]
        have : pre.length - 1 < pre.length := by omega
        simp [h, List.getElem_append, this]
      rw [hlst] at hq
      simp only at hq
      by_cases h4 : x ≤ xs[pre.length - 1]
      · simp only [decide_eq_true h4, cond_true]; simpa only [if_pos h4] using hq (n + 14) (by omega)
      · simp only [decide_eq_false h4, cond_false]
        simp only [if_neg h4] at hq
        exact nxt _ fun n' hn => hq n' (by omega)
    · have hpre : pre = [] := List.length_eq_zero_iff.1 (by omega)
      simp only [decide_eq_false h3, cond_false]
      subst hpre
      exact nxt _ fun n' hn => hq n' (by omega)
theorem links_c {m : Mem} {n : Nat} {a : Option Addr} {c : Nat} {xs : List Int} {Q : Value → Mem → Nat → Prop} (hv : Sl m n a c (xs.map vi)) (hl : xs.length ≤ 1000) (hq : Q (vi (ordE xs)) m n) : Wc Try.prog fRef13links [.slice a xs.length c] m n Q := by
  refine Wc.scalar (u := vi (ordE xs)) ?_ rfl hq
  refine Wc_of mixed (cfg := xcfg) (fuel := 400) ?_
  rw [xRef13links]
  exact links_loop hv hl xs [] n rfl fun n' h => ⟨rfl, Le.refl.up h⟩

def chkE (nodes a0 a1 : Int) (xs : List Int) : Int := if a0 < 0 then 2 else if a0 ≥ nodes then 2 else if a1 < 1 then 2 else if a1 > 1073741824 then 2 else ordE xs
abbrev recV (a0 a1 : Int) (a : Option Addr) (l c : Nat) : Value := .agg ⟨[.int .i64 a0, .int .i64 a1, .slice a l c]⟩
theorem check_c {m : Mem} {n : Nat} {a : Option Addr} {c : Nat} {xs : List Int} {nodes a0 a1 : Int} {Q : Value → Mem → Nat → Prop} (hv : Sl m n a c (xs.map vi)) (hl : xs.length ≤ 1000) (hq : Q (vi (chkE nodes a0 a1 xs)) m n) :
    Wc Try.prog fLsdbCheck [.int .i64 nodes, recV a0 a1 a xs.length c] m n Q := by
  refine Wc.scalar (u := vi (chkE nodes a0 a1 xs)) ?_ rfl hq
  refine Wc_of mixed (cfg := xcfg) (fuel := 400) ?_
  rw [xLsdbCheck]
  refine memLet.mk fun m0 hm => ?_
  have hg : m0.get n = some (.cells none tApiRecord 3 [.int .i64 a0, .int .i64 a1, .slice a xs.length c]) := by simp [hm, Tr.get_set]
  have hle : Le m n m0 (n + 1) := by rw [hm]; exact Le.new
  have h0 : rd m0 n 0 = some (.int .i64 a0) := by simp [rd, cellsOf, hg]
  have h1 : rd m0 n 1 = some (.int .i64 a1) := by simp [rd, cellsOf, hg]
  have h2 : rd m0 n 2 = some (.slice a xs.length c) := by simp [rd, cellsOf, hg]
  have hi : isC m0 n = true := by simp [isC, hg]
  simp only [bif_if, chkE]
  refine ⟨hi, _, h0, ?_⟩
  split
  · exact ⟨rfl, hle⟩
  refine ⟨hi, _, h0, ?_⟩
  split
  · exact ⟨rfl, hle⟩
  refine ⟨hi, _, h1, ?_⟩
  split
  · exact ⟨rfl, hle⟩
  refine ⟨hi, _, h1, ?_⟩
  split
  · exact ⟨rfl, hle⟩
  exact ⟨hi, _, _, _, h2, ordered_c (hv.le hle) hl ⟨_, rfl, Later.mk ⟨by simp [*], hle⟩⟩⟩
theorem rcheck_c {m : Mem} {n : Nat} {a : Option Addr} {c : Nat} {xs : List Int} {nodes a0 a1 : Int} {Q : Value → Mem → Nat → Prop} (hv : Sl m n a c (xs.map vi)) (hl : xs.length ≤ 1000) (hq : Q (vi (chkE nodes a0 a1 xs)) m n) :
    Wc Try.prog fRef13Check [.int .i64 nodes, recV a0 a1 a xs.length c] m n Q := by
  refine Wc.scalar (u := vi (chkE nodes a0 a1 xs)) ?_ rfl hq
  refine Wc_of mixed (cfg := xcfg) (fuel := 400) ?_
  rw [xRef13Check]
  refine memLet.mk fun m0 hm => ?_
  have hg : m0.get n = some (.cells none tApiRecord 3 [.int .i64 a0, .int .i64 a1, .slice a xs.length c]) := by simp [hm, Tr.get_set]
  have hle : Le m n m0 (n + 1) := by rw [hm]; exact Le.new
  have h0 : rd m0 n 0 = some (.int .i64 a0) := by simp [rd, cellsOf, hg]
  have h1 : rd m0 n 1 = some (.int .i64 a1) := by simp [rd, cellsOf, hg]
  have h2 : rd m0 n 2 = some (.slice a xs.length c) := by simp [rd, cellsOf, hg]
  have hi : isC m0 n = true := by simp [isC, hg]
  simp only [bif_if, chkE]
  refine ⟨hi, _, h0, ?_⟩
  split
  · exact ⟨rfl, hle⟩
  refine ⟨hi, _, h0, ?_⟩
  split
  · exact ⟨rfl, hle⟩
  refine ⟨hi, _, h1, ?_⟩
  split
  · exact ⟨rfl, hle⟩
  refine ⟨hi, _, h1, ?_⟩
  split
  · exact ⟨rfl, hle⟩
  exact ⟨hi, _, _, _, h2, links_c (hv.le hle) hl ⟨_, rfl, Later.mk ⟨by simp [*], hle⟩⟩⟩

/- comparing -/
def cmpI (x y : Int) : Int := if x < y then -1 else if x > y then 1 else 0
def cmpL : List Int → List Int → Int
  | [], [] => 0
  | [], _ :: _ => -1
  | _ :: _, [] => 1
  | x :: xs, y :: ys => if x < y then -1 else if x > y then 1 else cmpL xs ys
def recCmp (s1 : Int) (l1 : List Int) (s2 : Int) (l2 : List Int) : Int := if s1 < s2 then -1 else if s1 > s2 then 1 else cmpL l1 l2
theorem isNaN_c {m : Mem} {n : Nat} {x : Int} {Q : Value → Mem → Nat → Prop} (hq : Q (.bool false) m n) : Wc Try.prog fCmpisNaNint [.int .i64 x] m n Q := by
  refine Wc_of mixed (cfg := xcfg) (fuel := 400) ?_
  rw [xCmpisNaNint]
  simpa using hq
theorem cmpCompare_c {m : Mem} {n : Nat} {x y : Int} {Q : Value → Mem → Nat → Prop} (hq : Q (vi (cmpI x y)) m n) : Wc Try.prog fCmpCompareint [.int .i64 x, .int .i64 y] m n Q := by
  refine Wc_of mixed (cfg := xcfg) (fuel := 400) ?_
  rw [xCmpCompareint]
  refine isNaN_c ⟨_, rfl, Later.mk ?_⟩
  refine isNaN_c ⟨_, rfl, Later.mk ?_⟩
  simp only [cond_false, bif_if]
  unfold cmpI at hq
  split
  · rename_i h; simpa only [if_pos h] using hq
  split
  · rename_i h h2; simpa only [if_neg h, if_pos h2] using hq
  · rename_i h h2; simpa only [if_neg h, if_neg h2] using hq
theorem slCmp_loop {m : Mem} {a b : Option Addr} {c d : Nat} {xs ys : List Int} {Q : Value → Mem → Nat → Prop} {n0 : Nat} (hx : Sl m n0 a c (xs.map vi)) (hy : Sl m n0 b d (ys.map vi)) (hlx : xs.length ≤ 1000) :
    ∀ lx ly pre pre' n, xs = pre ++ lx → ys = pre' ++ ly → pre.length = pre'.length → Q (vi (cmpL lx ly)) m n →
      W Try.prog { fn := fSlicesCompareLintint, nt := 36, slots := [(0, .slice a xs.length c), (1, .slice b ys.length d), (9, .slice a xs.length c), (10, .int .i64 xs.length), (11, .int .i64 pre.length)], todo := pt Try.prog fSlicesCompareLintint [1, 0, 1, 0, 0] } m n Q := by
  intro lx
  induction lx with
  | nil =>
    intro ly pre pre' n h1 h2 h3 hq
    refine W_of mixed (cfg := xcfg) (fuel := 400) ?_
    rw [xSlicesCompareLintintk0]
    have e : ¬ ((pre.length : Int) < xs.length) := by simp [h1]
    simp only [decide_eq_false e, cond_false]
    cases ly with
    | nil =>
      have e2 : ¬ ((xs.length : Int) < ys.length) := by simp [h1, h2, h3]
      simp only [decide_eq_false e2, cond_false]; exact hq
    | cons y ly =>
      have e2 : ((xs.length : Int) < ys.length) := by simp [h1, h2, h3]; omega
      simp only [decide_eq_true e2, cond_true]; exact hq
  | cons x lx ih =>
    intro ly pre pre' n h1 h2 h3 hq
    refine W_of mixed (cfg := xcfg) (fuel := 400) ?_
    rw [xSlicesCompareLintintk0]
    have hlt : pre.length < xs.length := by simp [h1]
    have e : ((pre.length : Int) < xs.length) := by omega
    have ex : xs[pre.length] = x := by simp [h1]
    have hw := wrapN (k := pre.length) (by omega)
    simp only [decide_eq_true e, cond_true]
    refine hx.ldi hlt ?_
    rw [ex]
    cases ly with
    | nil =>
      have e2 : ((pre.length : Int) ≥ ys.length) := by simp [h2, h3]
      simp only [decide_eq_true e2, cond_true]; exact hq
    | cons y ly =>
      have hlt2 : pre.length < ys.length := by simp [h2, h3]
      have e2 : ¬ ((pre.length : Int) ≥ ys.length) := by omega
      have ey : ys[pre.length] = y := by simp [h2, h3]
      simp only [decide_eq_false e2, cond_false]
      refine hy.ldi hlt2 ?_
      rw [ey]
      refine cmpCompare_c ⟨_, rfl, Later.mk ?_⟩
      simp only [cmpL] at hq
      have nxt := ih ly (pre ++ [x]) (pre' ++ [y]) n (by simp [h1]) (by simp [h2]) (by simp [h3])
      have hlen : ((pre ++ [x]).length : Int) = ((pre.length + 1 : Nat) : Int) := by simp
      rw [hlen, ← hw] at nxt
      unfold cmpI
      by_cases g1 : x < y
      · simp only [if_pos g1] at hq ⊢
        simpa using hq
      by_cases g2 : x > y
      · simp only [if_neg g1, if_pos g2] at hq ⊢
        simpa using hq
      · simp only [if_neg g1, if_neg g2] at hq ⊢
        simpa using nxt hq
theorem slCmp_c {m : Mem} {n : Nat} {a b : Option Addr} {c d : Nat} {xs ys : List Int} {Q : Value → Mem → Nat → Prop} (hx : Sl m n a c (xs.map vi)) (hy : Sl m n b d (ys.map vi)) (hlx : xs.length ≤ 1000) (hq : Q (vi (cmpL xs ys)) m n) :
    Wc Try.prog fSlicesCompareLintint [.slice a xs.length c, .slice b ys.length d] m n Q := by
  refine Wc_of mixed (cfg := xcfg) (fuel := 400) ?_
  rw [xSlicesCompareLintint]
  exact slCmp_loop hx hy hlx xs ys [] [] n rfl rfl rfl hq
theorem cmpOr_loop {m : Mem} {a : Option Addr} {c : Nat} {xs : List Int} {Q : Value → Mem → Nat → Prop} {n0 : Nat} (hx : Sl m n0 a c (xs.map vi)) (hlx : xs.length ≤ 1000) :
    ∀ l pre n, xs = pre ++ l → Q (vi ((l.find? (· != 0)).getD 0)) m n →
      W Try.prog { fn := fCmpOrint, nt := 18, slots := [(3, .int .i64 0), (6, .slice a xs.length c), (7, .int .i64 xs.length), (8, .int .i64 pre.length)], todo := pt Try.prog fCmpOrint [1, 1, 0, 1, 0, 0] } m n Q := by
  intro l
  induction l with
  | nil =>
    intro pre n h1 hq
    refine W_of mixed (cfg := xcfg) (fuel := 400) ?_
    rw [xCmpOrintk0]
    have e : ¬ ((pre.length : Int) < xs.length) := by simp [h1]
    simp only [decide_eq_false e, cond_false]
    exact hq
  | cons x lx ih =>
    intro pre n h1 hq
    refine W_of mixed (cfg := xcfg) (fuel := 400) ?_
    rw [xCmpOrintk0]
    have hlt : pre.length < xs.length := by simp [h1]
    have e : ((pre.length : Int) < xs.length) := by omega
    have ex : xs[pre.length] = x := by simp [h1]
    have hw := wrapN (k := pre.length) (by omega)
    simp only [decide_eq_true e, cond_true]
    refine hx.ldi hlt ?_
    rw [ex]
    have nxt := ih (pre ++ [x]) n (by simp [h1])
    have hlen : ((pre ++ [x]).length : Int) = ((pre.length + 1 : Nat) : Int) := by simp
    rw [hlen, ← hw] at nxt
    cases hb : (x != 0) with
    | true =>
      simp only [cond_true]
      simpa [List.find?_cons, hb] using hq
    | false =>
      simp only [cond_false]
      exact nxt (by simpa [List.find?_cons, hb] using hq)
theorem cmpOr_c {m : Mem} {n : Nat} {a : Option Addr} {c : Nat} {xs : List Int} {Q : Value → Mem → Nat → Prop} (hx : Sl m n a c (xs.map vi)) (hlx : xs.length ≤ 1000) (hq : Q (vi ((xs.find? (· != 0)).getD 0)) m n) :
    Wc Try.prog fCmpOrint [.slice a xs.length c] m n Q := by
  refine Wc_of mixed (cfg := xcfg) (fuel := 400) ?_
  rw [xCmpOrint]
  exact cmpOr_loop hx hlx xs [] n rfl hq
end Go.Proofs.Ytjjgdapagphleaa
