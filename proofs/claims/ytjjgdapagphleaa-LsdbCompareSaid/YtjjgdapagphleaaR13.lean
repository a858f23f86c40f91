/- R13: what parts of the program compute; helper of the claim. -/
import Derived.Test.YtjjgdapagphleaaQ13
namespace Go.Proofs.Ytjjgdapagphleaa
open Go Go.Ab

theorem lsdbCompare_c {m : Mem} {n : Nat} {a b : Option Addr} {c d : Nat} {xs ys : List Int} {a0 a1 b0 b1 : Int} {Q : Value → Mem → Nat → Prop} (hx : Sl m n a c (xs.map vi)) (hy : Sl m n b d (ys.map vi)) (hl : xs.length ≤ 1000) (hf : ∀ i, n ≤ i → m.get i = none)
    (hq : Q (vi (recCmp a1 xs b1 ys)) m n) : Wc Try.prog fLsdbCompare [recV a0 a1 a xs.length c, recV b0 b1 b ys.length d] m n Q := by
  refine Wc.scalar (u := vi (recCmp a1 xs b1 ys)) ?_ rfl hq
  refine Wc_of mixed (cfg := xcfg) (fuel := 400) ?_
  rw [xLsdbCompare]
  refine memLet.mk fun m0 hm0 => memLet.mk fun m1 hm1 => ?_
  have g0 : m1.get n = some (.cells none tApiRecord 3 [.int .i64 a0, .int .i64 a1, .slice a xs.length c]) := by simp [hm0, hm1, Tr.get_set]
  have g1 : m1.get (n + 1) = some (.cells none tApiRecord 3 [.int .i64 b0, .int .i64 b1, .slice b ys.length d]) := by simp [hm0, hm1, Tr.get_set]
  have hle : Le m n m1 (n + 1 + 1) := by rw [hm1, hm0]; exact Le.new.set (by omega) (by omega)
  have hn : ∀ i, n + 1 + 1 ≤ i → m1.get i = none := fun i hi => by rw [hm1, hm0, Tr.get_set, if_neg (by omega), Tr.get_set, if_neg (by omega)]; exact hf i (by omega)
  have i0 : isC m1 n = true := by simp [isC, g0]
  have i1 : isC m1 (n + 1) = true := by simp [isC, g1]
  have r01 : rd m1 n 1 = some (.int .i64 a1) := by simp [rd, cellsOf, g0]
  have r02 : rd m1 n 2 = some (.slice a xs.length c) := by simp [rd, cellsOf, g0]
  have r11 : rd m1 (n + 1) 1 = some (.int .i64 b1) := by simp [rd, cellsOf, g1]
  have r12 : rd m1 (n + 1) 2 = some (.slice b ys.length d) := by simp [rd, cellsOf, g1]
  refine ⟨i0, _, r01, i1, _, r11, _, _, _, cmpCompare_c ⟨rfl, rfl, rfl⟩, Later.mk ⟨i0, _, _, _, r02, i1, _, _, _, r12, _, _, _, slCmp_c ((hx.le hle).same (by omega) fun _ _ _ _ => rfl) ((hy.le hle).same (by omega) fun _ _ _ _ => rfl) hl ⟨rfl, rfl, rfl⟩, Later.mk ?_⟩⟩
  refine memLet.mk fun m2 hm2 => ?_
  have g2 : m2.get (n + 1 + 1 + 10) = some (.cells none tInt 1 [.int .i64 (cmpI a1 b1), .int .i64 (cmpL xs ys)]) := by simp [hm2, Tr.get_set]
  have hsl : Sl m2 (n + 1 + 1 + 13) (some ⟨n + 1 + 1 + 10, 0, none⟩) 2 ([cmpI a1 b1, cmpL xs ys].map vi) := (Ow.new (n0 := 0) (T := tInt) (sz := 1) (l := 2) (m := m1) (cs := [cmpI a1 b1, cmpL xs ys].map vi) (Nat.zero_le _) rfl).sl.same (by omega) fun _ _ _ e => by rw [hm2]; rfl
  refine ⟨_, _, _, cmpOr_c (xs := [cmpI a1 b1, cmpL xs ys]) hsl (by simp) ⟨rfl, rfl, rfl⟩, Later.mk ?_⟩
  refine ⟨⟨_, _, _, r12, rfl⟩, ⟨i1, rfl⟩, ⟨_, _, _, r02, rfl⟩, ⟨i0, rfl⟩, Nat.le_refl _, Nat.le_refl _, Nat.le_refl _, hn _ (by omega), hn _ (by omega), ?_, ?_⟩
  · congr 1
    unfold recCmp cmpI
    by_cases h1 : a1 < b1
    · simp [h1]
    by_cases h2 : a1 > b1
    · simp [h1, h2]
    · simp only [if_neg h1, if_neg h2]
      by_cases h3 : cmpL xs ys = 0
      · simp [h3]
      · simp [h3]
  · exact ⟨by have := hle.le; omega, fun i hi => by rw [hm2, Tr.get_set, if_neg (by omega)]; exact hle.same i hi⟩

theorem rcmp_loop {m : Mem} {a b : Option Addr} {c d : Nat} {xs ys : List Int} {Q : Value → Mem → Nat → Prop} {n0 : Nat} (hx : Sl m n0 a c (xs.map vi)) (hy : Sl m n0 b d (ys.map vi)) (hlx : xs.length ≤ 1000) :
    ∀ lx ly pre pre' n, xs = pre ++ lx → ys = pre' ++ ly → pre.length = pre'.length → (∀ n', n ≤ n' → Q (vi (cmpL lx ly)) m n') →
      W Try.prog { fn := fRef13compare, nt := 48, slots := [(0, .slice a xs.length c), (1, .slice b ys.length d), (5, .int .i64 pre.length)], todo := pt Try.prog fRef13compare [1, 0, 1, 0, 0] } m n Q := by
  intro lx
  induction lx with
  | nil =>
    intro ly pre pre' n h1 h2 h3 hq
    refine W_of mixed (cfg := xcfg) (fuel := 400) ?_
    rw [xRef13comparek0]
    have e : ¬ ((pre.length : Int) < xs.length) := by simp [h1]
    have hq := hq n (Nat.le_refl _)
    simp only [decide_eq_false e, cond_false]
    cases ly with
    | nil =>
      have e2 : ¬ ((xs.length : Int) < ys.length) := by simp [h1, h2, h3]
      have e3 : ¬ ((xs.length : Int) > ys.length) := by simp [h1, h2, h3]
      simp only [decide_eq_false e2, decide_eq_false e3, cond_false]; exact hq
    | cons y ly =>
      have e2 : ((xs.length : Int) < ys.length) := by simp [h1, h2, h3]; omega
      simp only [decide_eq_true e2, cond_true]; exact hq
  | cons x lx ih =>
    intro ly pre pre' n h1 h2 h3 hq
    refine W_of mixed (cfg := xcfg) (fuel := 400) ?_
    rw [xRef13comparek0]
    have hlt : pre.length < xs.length := by simp [h1]
    have e : ((pre.length : Int) < xs.length) := by omega
    have ex : xs[pre.length] = x := by simp [h1]
    have hw := wrapN (k := pre.length) (by omega)
    simp only [decide_eq_true e, cond_true]
    cases ly with
    | nil =>
      have e2 : ¬ ((pre.length : Int) < ys.length) := by simp [h2, h3]
      have e3 : ¬ ((xs.length : Int) < ys.length) := by simp [h2] at e2 ⊢; omega
      have e4 : ((xs.length : Int) > ys.length) := by simp [h1, h2]; omega
      simp only [decide_eq_false e2, decide_eq_false e3, decide_eq_true e4, cond_true, cond_false]; exact hq n (Nat.le_refl _)
    | cons y ly =>
      have hlt2 : pre.length < ys.length := by simp [h2, h3]
      have e2 : ((pre.length : Int) < ys.length) := by omega
      have ey : ys[pre.length] = y := by simp [h2, h3]
      simp only [decide_eq_true e2, cond_true]
      refine hx.ldi hlt (hy.ldi hlt2 ?_)
      rw [ex, ey]
      simp only [cmpL] at hq
      have nxt := ih ly (pre ++ [x]) (pre' ++ [y]) (n + 9 + 9) (by simp [h1]) (by simp [h2]) (by simp [h3])
      have hlen : ((pre ++ [x]).length : Int) = ((pre.length + 1 : Nat) : Int) := by simp
      rw [hlen, ← hw] at nxt
      by_cases g1 : x < y
      · simp only [decide_eq_true g1, cond_true]; simpa only [if_pos g1] using hq (n + 9) (by omega)
      simp only [decide_eq_false g1, cond_false]
      refine hx.ldi hlt (hy.ldi hlt2 ?_)
      rw [ex, ey]
      by_cases g2 : x > y
      · simp only [decide_eq_true g2, cond_true]; simpa only [if_neg g1, if_pos g2] using hq (n + 9 + 9) (by omega)
      · simp only [decide_eq_false g2, cond_false]
        simp only [if_neg g1, if_neg g2] at hq
        exact nxt fun n' hn => hq n' (by omega)
theorem rcmp_c {m : Mem} {n : Nat} {a b : Option Addr} {c d : Nat} {xs ys : List Int} {Q : Value → Mem → Nat → Prop} (hx : Sl m n a c (xs.map vi)) (hy : Sl m n b d (ys.map vi)) (hlx : xs.length ≤ 1000) (hq : Q (vi (cmpL xs ys)) m n) :
    Wc Try.prog fRef13compare [.slice a xs.length c, .slice b ys.length d] m n Q := by
  refine Wc.scalar (u := vi (cmpL xs ys)) ?_ rfl hq
  refine Wc_of mixed (cfg := xcfg) (fuel := 400) ?_
  rw [xRef13compare]
  exact rcmp_loop hx hy hlx xs ys [] [] n rfl rfl rfl fun n' h => ⟨rfl, Le.refl.up h⟩
theorem refCompare_c {m : Mem} {n : Nat} {a b : Option Addr} {c d : Nat} {xs ys : List Int} {a0 a1 b0 b1 : Int} {Q : Value → Mem → Nat → Prop} (hx : Sl m n a c (xs.map vi)) (hy : Sl m n b d (ys.map vi)) (hl : xs.length ≤ 1000)
    (hq : Q (vi (recCmp a1 xs b1 ys)) m n) : Wc Try.prog fRef13Compare [recV a0 a1 a xs.length c, recV b0 b1 b ys.length d] m n Q := by
  refine Wc.scalar (u := vi (recCmp a1 xs b1 ys)) ?_ rfl hq
  refine Wc_of mixed (cfg := xcfg) (fuel := 400) ?_
  rw [xRef13Compare]
  refine memLet.mk fun m0 hm0 => memLet.mk fun m1 hm1 => ?_
  have g0 : m1.get n = some (.cells none tApiRecord 3 [.int .i64 a0, .int .i64 a1, .slice a xs.length c]) := by simp [hm0, hm1, Tr.get_set]
  have g1 : m1.get (n + 1) = some (.cells none tApiRecord 3 [.int .i64 b0, .int .i64 b1, .slice b ys.length d]) := by simp [hm0, hm1, Tr.get_set]
  have hle : Le m n m1 (n + 1 + 1) := by rw [hm1, hm0]; exact Le.new.set (by omega) (by omega)
  unfold recCmp
  simp only [bif_if]
  refine ⟨isC_of g0, _, rd_of g0 rfl, isC_of g1, _, rd_of g1 rfl, ?_⟩
  split
  · exact ⟨rfl, hle⟩
  refine ⟨isC_of g0, _, rd_of g0 rfl, isC_of g1, _, rd_of g1 rfl, ?_⟩
  split
  · exact ⟨rfl, hle⟩
  exact ⟨isC_of g0, _, _, _, rd_of g0 rfl, isC_of g1, _, _, _, rd_of g1 rfl, rcmp_c (hx.le hle) (hy.le hle) hl ⟨_, rfl, Later.mk ⟨by simp [*], hle⟩⟩⟩
theorem sameI_loop {m : Mem} {a b : Option Addr} {c d : Nat} {xs ys : List Int} {Q : Value → Mem → Nat → Prop} {n0 : Nat} (hx : Sl m n0 a c (xs.map vi)) (hy : Sl m n0 b d (ys.map vi)) (hlx : xs.length ≤ 1000) :
    ∀ lx ly pre pre' n, xs = pre ++ lx → ys = pre' ++ ly → pre.length = pre'.length → lx.length = ly.length → (∀ n', n ≤ n' → Q (.bool (lx == ly)) m n') →
      W Try.prog { fn := fKitSameint, nt := 26, slots := [(0, .slice a xs.length c), (1, .slice b ys.length d), (5, .int .i64 pre.length)], todo := pt Try.prog fKitSameint [1, 1, 0, 1, 0, 0] } m n Q := by
  intro lx
  induction lx with
  | nil =>
    intro ly pre pre' n h1 h2 h3 h4 hq
    refine W_of mixed (cfg := xcfg) (fuel := 400) ?_
    rw [xKitSameintk0]
    have e : ¬ ((pre.length : Int) < xs.length) := by simp [h1]
    simp only [decide_eq_false e, cond_false]
    obtain rfl : ly = [] := List.length_eq_zero_iff.1 (by simpa using h4.symm)
    exact hq n (Nat.le_refl _)
  | cons x lx ih =>
    intro ly pre pre' n h1 h2 h3 h4 hq
    cases ly with
    | nil => simp at h4
    | cons y ly =>
      refine W_of mixed (cfg := xcfg) (fuel := 400) ?_
      rw [xKitSameintk0]
      have hlt : pre.length < xs.length := by simp [h1]
      have e : ((pre.length : Int) < xs.length) := by omega
      have ex : xs[pre.length] = x := by simp [h1]
      have hw := wrapN (k := pre.length) (by omega)
      have hlt2 : pre.length < ys.length := by simp [h2, h3]
      have ey : ys[pre.length] = y := by simp [h2, h3]
      simp only [decide_eq_true e, cond_true]
      refine hx.ldi hlt (hy.ldi hlt2 ?_)
      rw [ex, ey]
      by_cases g1 : x = y
      · have : (x != y) = false := by simp [g1]
        simp only [this, cond_false]
        have nxt := ih ly (pre ++ [x]) (pre' ++ [y]) (n + 9) (by simp [h1]) (by simp [h2]) (by simp [h3]) (by simpa using h4) fun n' hn => by simpa [g1] using hq n' (by omega)
        have hlen : ((pre ++ [x]).length : Int) = ((pre.length + 1 : Nat) : Int) := by simp
        rw [hlen, ← hw] at nxt
        exact nxt
      · have : (x != y) = true := by simp [g1]
        simp only [this, cond_true]
        have e : (x :: lx == y :: ly) = false := by simp [g1]
        rw [e] at hq
        exact hq (n + 9) (by omega)
theorem sameI_c {m : Mem} {n : Nat} {a b : Option Addr} {c d : Nat} {xs ys : List Int} {Q : Value → Mem → Nat → Prop} (hx : Sl m n a c (xs.map vi)) (hy : Sl m n b d (ys.map vi)) (hlx : xs.length ≤ 1000) (hq : Q (.bool (xs == ys)) m n) :
    Wc Try.prog fKitSameint [.slice a xs.length c, .slice b ys.length d] m n Q := by
  refine Wc.scalar (u := .bool (xs == ys)) ?_ rfl hq
  refine Wc_of mixed (cfg := xcfg) (fuel := 400) ?_
  rw [xKitSameint]
  by_cases h : xs.length = ys.length
  · have : (((xs.length : Nat) : Int) != (ys.length : Nat)) = false := by simp [h]
    simp only [this, cond_false]
    exact sameI_loop hx hy hlx xs ys [] [] n rfl rfl rfl h fun n' h => ⟨rfl, Le.refl.up h⟩
  · have : (((xs.length : Nat) : Int) != (ys.length : Nat)) = true := by simp; omega
    simp only [this, cond_true]
    have : (xs == ys) = false := by rw [beq_eq_false_iff_ne]; rintro rfl; exact h rfl
    rw [this]; exact ⟨rfl, Le.refl⟩
theorem equal_c {m : Mem} {n : Nat} {a b : Option Addr} {c d : Nat} {xs ys : List Int} {a0 a1 b0 b1 : Int} {Q : Value → Mem → Nat → Prop} (hx : Sl m n a c (xs.map vi)) (hy : Sl m n b d (ys.map vi)) (hl : xs.length ≤ 1000)
    (hq : Q (.bool (a0 == b0 && a1 == b1 && xs == ys)) m n) : Wc Try.prog fLaw13equal [recV a0 a1 a xs.length c, recV b0 b1 b ys.length d] m n Q := by
  refine Wc.scalar (u := .bool (a0 == b0 && a1 == b1 && xs == ys)) ?_ rfl hq
  refine Wc_of mixed (cfg := xcfg) (fuel := 400) ?_
  rw [xLaw13equal]
  refine memLet.mk fun m0 hm0 => memLet.mk fun m1 hm1 => ?_
  have g0 : m1.get n = some (.cells none tApiRecord 3 [.int .i64 a0, .int .i64 a1, .slice a xs.length c]) := by simp [hm0, hm1, Tr.get_set]
  have g1 : m1.get (n + 1) = some (.cells none tApiRecord 3 [.int .i64 b0, .int .i64 b1, .slice b ys.length d]) := by simp [hm0, hm1, Tr.get_set]
  have hle : Le m n m1 (n + 1 + 1) := by rw [hm1, hm0]; exact Le.new.set (by omega) (by omega)
  refine ⟨isC_of g0, _, rd_of g0 rfl, isC_of g1, _, rd_of g1 rfl, ?_⟩
  cases h1 : a0 == b0
  · exact ⟨rfl, hle⟩
  refine ⟨isC_of g0, _, rd_of g0 rfl, isC_of g1, _, rd_of g1 rfl, ?_⟩
  cases h2 : a1 == b1
  · exact ⟨rfl, hle⟩
  exact ⟨isC_of g0, _, _, _, rd_of g0 rfl, isC_of g1, _, _, _, rd_of g1 rfl, sameI_c (hx.le hle) (hy.le hle) hl ⟨_, rfl, Later.mk ⟨by simp [h1, h2], hle⟩⟩⟩
theorem intOk : elemOk Try.prog tLint tInt 1 = true := by kernel_rfl
/-- A copy. -/
theorem own_c {m : Mem} {n : Nat} {a : Option Addr} {c : Nat} {xs : List Int} {Q : Value → Mem → Nat → Prop} (hx : Sl m n a c (xs.map vi)) (hl : xs.length ≤ 1000) :
    ∃ a' m' n', Ow m' n n' tInt 1 a' xs.length xs.length (xs.map vi) ∧ Le m n m' n' ∧ ((∀ i, n ≤ i → m.get i = none) → ∀ i, n' ≤ i → m'.get i = none) ∧ ∀ Q : Value → Mem → Nat → Prop, Q (.slice a' xs.length xs.length) m' n' → Wc Try.prog fKitOwnint [.slice a xs.length c] m n Q := by
  have h0 : Ow (m.set n (.cells none tInt 1 [])) n (n + 1) tInt 1 (some ⟨n, 0, none⟩) 0 0 [] := Ow.new (Nat.le_refl _) rfl
  have hle : Le m n (m.set n (.cells none tInt 1 [])) (n + 1) := Le.new
  obtain ⟨a', m', n', h1, h2, h3, h4, h5, h6⟩ := h0.append (t := tLint) (k := xs.length) intOk ((hx.le hle).cells (by simp) (by omega)) (by simp [cellOk]) (by simp) (by omega) (by omega)
  rw [Nat.zero_add] at h1 h2
  rw [List.nil_append] at h2
  refine ⟨a', m', n', h2, ⟨by omega, fun i hi => ?_⟩, fun hf i hi => ?_, fun Q hq => ?_⟩
  · rw [h5 i (by omega) (by intro b o s e; cases e; omega)]; exact hle.same i hi
  · exact h6 (fun i hi => by rw [Tr.get_set, if_neg (by omega)]; exact hf i (by omega)) i hi
  · refine Wc_of mixed (cfg := xcfg) (fuel := 400) ?_
    rw [xKitOwnint]
    refine memLet.mk fun m0 hm => ?_
    subst hm
    exact ⟨_, _, _, _, _, h1, hq⟩
end Go.Proofs.Ytjjgdapagphleaa
