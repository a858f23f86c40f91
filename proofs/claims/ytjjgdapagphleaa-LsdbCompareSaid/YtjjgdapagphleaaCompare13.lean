/- Compare13: what parts of the program compute; helper of the claim. -/
import Derived.Test.YtjjgdapagphleaaR13
namespace Go.Proofs.Ytjjgdapagphleaa
open Go Go.Ab

set_option maxRecDepth 1000000 in
theorem awake_run : allTrue (callK Try.prog (fun _ => none) 100000000 fLaw13awake [] .leaf 0) = true := by kernel_rfl
theorem awake_c {m : Mem} {n : Nat} {Q : Value → Mem → Nat → Prop} (hq : Q (.bool true) m n) : Wc Try.prog fLaw13awake [] m n Q := Wc.known mixed awake_run hq

set_option maxRecDepth 100000 in
theorem compare_law {m : Mem} {n : Nat} {a b : Option Addr} {c d : Nat} {xs ys : List Int} {nodes a0 a1 b0 b1 : Int} {Q : Value → Mem → Nat → Prop} (hx : Sl m n a c (xs.map vi)) (hy : Sl m n b d (ys.map vi)) (hq : ∀ m n, Q (.bool true) m n) :
    Wc Try.prog fLaw13LsdbCompare [.int .i64 nodes, recV a0 a1 a xs.length c, recV b0 b1 b ys.length d] m n Q := by
  refine Wc.fresh (by kernel_rfl) fun hf => ?_
  refine Wc_of mixed (cfg := xcfg) (fuel := 400) ?_
  rw [xLaw13LsdbCompare]
  refine memLet.mk fun m0 hm0 => memLet.mk fun m1 hm1 => ?_
  have gA : m1.get n = some (.cells none tApiRecord 3 [.int .i64 a0, .int .i64 a1, .slice a xs.length c]) := by simp [hm0, hm1, Tr.get_set]
  have gB : m1.get (n + 1) = some (.cells none tApiRecord 3 [.int .i64 b0, .int .i64 b1, .slice b ys.length d]) := by simp [hm0, hm1, Tr.get_set]
  have hle : Le m n m1 (n + 1 + 1) := by rw [hm1, hm0]; exact Le.new.set (by omega) (by omega)
  have hf1 : ∀ i, n + 1 + 1 ≤ i → m1.get i = none := fun i hi => by rw [hm1, hm0, Tr.get_set, if_neg (by omega), Tr.get_set, if_neg (by omega)]; exact hf i (by omega)
  refine ⟨isC_of gA, _, _, _, rd_of gA rfl, condD (fun _ => awake_c ⟨_, rfl, Later.mk (hq _ _)⟩) fun _ => ?_⟩
  refine ⟨isC_of gB, _, _, _, rd_of gB rfl, condD (fun _ => awake_c ⟨_, rfl, Later.mk (hq _ _)⟩) fun _ => ?_⟩
  refine ⟨_, _, _, _, _, rds_of gA, _, _, _, _, _, rds_of gB, ?_⟩
  refine memLet.mk fun m2 hm2 => ?_
  have gX2 : m2.get (n + 1 + 1 + 2) = some (.cells none tApiRecord 3 [.int .i64 0, .int .i64 0, .slice none 0 0]) := by simp [hm2, Tr.get_set]
  have gY2 : m2.get (n + 1 + 1 + 3) = some (.cells none tApiRecord 3 [.int .i64 0, .int .i64 0, .slice none 0 0]) := by simp [hm2, Tr.get_set]
  refine ⟨_, store_of gX2 (by simp) (by simp [cellOk]), ?_⟩
  generalize hm3 : m2.set (n + 1 + 1 + 2) _ = m3
  have gY3 : m3.get (n + 1 + 1 + 3) = some (.cells none tApiRecord 3 [.int .i64 0, .int .i64 0, .slice none 0 0]) := by rw [← hm3, Tr.get_set, if_neg (by omega)]; exact gY2
  refine ⟨_, store_of gY3 (by simp) (by simp [cellOk]), ?_⟩
  generalize hm4 : m3.set (n + 1 + 1 + 3) _ = m4
  have low : ∀ i, i < n + 1 + 1 + 2 ∨ n + 1 + 1 + 3 < i → m4.get i = m1.get i := fun i hi => by
    rw [← hm4, Tr.get_set, if_neg (by omega), ← hm3, Tr.get_set, if_neg (by omega), hm2, Tr.get_set, if_neg (by omega), Tr.get_set, if_neg (by omega)]
  have gB3 : m3.get (n + 1) = some (.cells none tApiRecord 3 [.int .i64 b0, .int .i64 b1, .slice b ys.length d]) := by
    rw [← hm3, Tr.get_set, if_neg (by omega), hm2, Tr.get_set, if_neg (by omega), Tr.get_set, if_neg (by omega)]; exact gB
  refine ⟨⟨_, _, _, _, _, rds_of gB3, rfl⟩, Nat.le_refl _, Nat.le_refl _, ?_⟩
  have gA4 := (low n (by omega)).trans gA
  have gB4 := (low (n + 1) (by omega)).trans gB
  have gX4 : m4.get (n + 1 + 1 + 2) = some (.cells none tApiRecord 3 [.int .i64 a0, .int .i64 a1, .slice a xs.length c]) := by
    rw [← hm4, Tr.get_set, if_neg (by omega), ← hm3]; simp [Tr.get_set]
  have gY4 : m4.get (n + 1 + 1 + 3) = some (.cells none tApiRecord 3 [.int .i64 b0, .int .i64 b1, .slice b ys.length d]) := by
    rw [← hm4]; simp [Tr.get_set]
  have hle4 : Le m n m4 (n + 1 + 1 + 6 + 10) := ⟨by omega, fun i hi => (low i (by omega)).trans (hle.same i hi)⟩
  have hf4 : ∀ i, n + 1 + 1 + 6 + 10 ≤ i → m4.get i = none := fun i hi => (low i (by omega)).trans (hf1 i (by omega))
  refine ⟨isC_of gA4, _, _, _, rd_of gA4 rfl, ?_⟩
  obtain ⟨pa, m5, k5, ow5, le5, fr5, run5⟩ := own_c (Q := Q) (hx.le hle4) (by omega)
  refine ⟨_, _, _, _, _, run5 _ ⟨rfl, rfl, rfl⟩, Later.mk ?_⟩
  have gB5 := le5.get (by omega) gB4
  refine ⟨isC_of gB5, _, _, _, rd_of gB5 rfl, ?_⟩
  obtain ⟨pb, m6, k6, ow6, le6, fr6, run6⟩ := own_c (Q := Q) (hy.le (hle4.trans le5)) (by omega)
  refine ⟨_, _, _, _, _, run6 _ ⟨rfl, rfl, rfl⟩, Later.mk ?_⟩
  have l5 := le5.le
  have l6 := le6.le
  have gX6 := (le5.trans le6).get (by omega) gX4
  refine ⟨isC_of gX6, _, store_of gX6 (by simp) (by simp [cellOk]), ?_⟩
  generalize hm7 : m6.set (n + 1 + 1 + 2) _ = m7
  have gY7 : m7.get (n + 1 + 1 + 3) = some (.cells none tApiRecord 3 [.int .i64 b0, .int .i64 b1, .slice b ys.length d]) := by rw [← hm7, Tr.get_set, if_neg (by omega)]; exact (le5.trans le6).get (by omega) gY4
  refine ⟨isC_of gY7, _, store_of gY7 (by simp) (by simp [cellOk]), ?_⟩
  generalize hm8 : m7.set (n + 1 + 1 + 3) _ = m8
  have gX5 := le5.get (by omega) gX4
  refine ⟨⟨isC_of gX5, rfl⟩, ⟨_, _, _, rd_of gB4 rfl, rfl⟩, ⟨isC_of gB4, rfl⟩, by omega, by omega, by omega, by omega, ?_⟩
  have low8 : ∀ i, i ≠ n + 1 + 1 + 2 → i ≠ n + 1 + 1 + 3 → m8.get i = m6.get i := fun i h1 h2 => by
    rw [← hm8, Tr.get_set, if_neg (fun e => h2 e.symm), ← hm7, Tr.get_set, if_neg (fun e => h1 e.symm)]
  have gA8 : m8.get n = _ := (low8 n (by omega) (by omega)).trans ((le5.trans le6).get (by omega) gA4)
  have gB8 : m8.get (n + 1) = _ := (low8 (n + 1) (by omega) (by omega)).trans ((le5.trans le6).get (by omega) gB4)
  have gX8 : m8.get (n + 1 + 1 + 2) = some (.cells none tApiRecord 3 [.int .i64 a0, .int .i64 a1, .slice pa xs.length xs.length]) := by
    rw [← hm8, Tr.get_set, if_neg (by omega), ← hm7]; simp [Tr.get_set]
  have gY8 : m8.get (n + 1 + 1 + 3) = some (.cells none tApiRecord 3 [.int .i64 b0, .int .i64 b1, .slice pb ys.length ys.length]) := by
    rw [← hm8]; simp [Tr.get_set]
  have hf8 : ∀ i, k6 + 30 ≤ i → m8.get i = none := fun i hi => (low8 i (by omega) (by omega)).trans (fr6 (fr5 hf4) i (by omega))
  have sx : Sl m8 (k6 + 30) a c (xs.map vi) := (hx.le ((hle4.trans le5).trans le6)).same (by omega) fun b o s e => low8 b (by have := hx.lt e; omega) (by have := hx.lt e; omega)
  have sy : Sl m8 (k6 + 30) b d (ys.map vi) := (hy.le ((hle4.trans le5).trans le6)).same (by omega) fun b o s e => low8 b (by have := hy.lt e; omega) (by have := hy.lt e; omega)
  have sxa : Sl m8 (k6 + 30) pa xs.length (xs.map vi) := (ow5.le le6).sl.same (by omega) fun b o s e => low8 b (by have := ow5.bnd e; omega) (by have := ow5.bnd e; omega)
  have syb : Sl m8 (k6 + 30) pb ys.length (ys.map vi) := ow6.sl.same (by omega) fun b o s e => low8 b (by have := ow6.bnd e; omega) (by have := ow6.bnd e; omega)
  have lx : xs.length ≤ 1000 := by omega
  have ly : ys.length ≤ 1000 := by omega
  refine ⟨_, _, _, _, _, rds_of gX8, _, _, _, check_c sxa lx ⟨rfl, rfl, rfl⟩, Later.mk ?_⟩
  refine ⟨_, _, _, _, _, rds_of gA8, _, _, _, rcheck_c sx lx ⟨rfl, rfl, rfl⟩, Later.mk ?_⟩
  refine condT (by simp) ?_
  refine ⟨_, _, _, _, _, rds_of gX8, _, _, _, _, _, rds_of gY8, _, _, _, lsdbCompare_c sxa syb lx hf8 ⟨rfl, rfl, rfl⟩, Later.mk ?_⟩
  refine ⟨_, _, _, _, _, rds_of gA8, _, _, _, _, _, rds_of gB8, _, _, _, refCompare_c sx sy lx ⟨rfl, rfl, rfl⟩, Later.mk ?_⟩
  refine condT (by simp) ?_
  refine ⟨_, _, _, _, _, rds_of gX8, _, _, _, _, _, rds_of gA8, _, _, _, equal_c sxa sx lx ⟨rfl, rfl, rfl⟩, Later.mk ?_⟩
  refine condT (by simp) ?_
  refine ⟨_, _, _, _, _, rds_of gY8, _, _, _, _, _, rds_of gB8, _, _, _, equal_c syb sy ly ⟨rfl, rfl, rfl⟩, Later.mk ?_⟩
  refine condT (by simp) ?_
  refine ⟨_, _, _, awake_c ⟨rfl, rfl, rfl⟩, Later.mk ?_⟩
  exact ⟨⟨_, _, _, _, _, rds_of gB8, rfl⟩, ⟨_, _, _, _, _, rds_of gA8, rfl⟩, ⟨_, _, _, _, _, rds_of gA8, rfl⟩, Nat.le_refl _, Nat.le_refl _, Nat.le_refl _, Nat.le_refl _, Nat.le_refl _, Nat.le_refl _, Nat.le_refl _, hq _ _⟩
theorem undInt : Try.prog.underlying tInt = some (.int .i64) := by kernel_rfl
theorem undLint : Try.prog.underlying tLint = some (.slice tInt) := by kernel_rfl
theorem fldRec : fieldTys Try.prog tApiRecord = some [tInt, tInt, tLint] := by kernel_rfl
theorem ints_of {m : Mem} {f : Nat} {es : List (List Value)} (h : ∀ x ∈ es, x.length = Try.prog.cellsOf tInt ∧ TyC Try.prog m f tInt x) : ∃ xs : List Int, es.flatten = xs.map vi ∧ es.length = xs.length :=
  rows_one (f := vi) fun x hx => by obtain ⟨v, e, _⟩ := TyC.int undInt (h x hx).2; exact ⟨v, e⟩
theorem rec_of {m : Mem} {n : Nat} (hf : ∀ i, n ≤ i → m.get i = none) {f : Nat} {cs : List Value} (h : TyC Try.prog m f tApiRecord cs) : ∃ a0 a1 a c xs, cs = [.int .i64 a0, .int .i64 a1, .slice a (xs : List Int).length c] ∧ Sl m n a c (xs.map vi) := by
  obtain ⟨g, parts, rfl, hlen, hp⟩ := TyC.fields fldRec h
  match parts, hlen with
  | [p0, p1, p2], _ =>
    obtain ⟨x, rfl, _⟩ := TyC.int undInt (hp 0 tInt p0 rfl rfl)
    obtain ⟨y, rfl, _⟩ := TyC.int undInt (hp 1 tInt p1 rfl rfl)
    obtain ⟨id, len, cap, nl, es, f, rfl, h1, h2, h3, h4, h5, h6⟩ := TyC.slice undLint (hp 2 tLint p2 rfl rfl)
    obtain ⟨xs, e1, e2⟩ := ints_of h6
    rw [e1] at h4
    obtain rfl : len = xs.length := by omega
    exact ⟨x, y, _, cap, xs, rfl, Sl.in_ h4 (lt_of_get hf h4)⟩
set_option maxRecDepth 1000000 in
theorem lsdbCompare_main (m : Mem) (n : Nat) (ars : List Value) (hl : ars.length = ([3, 24, 24] : List TypeId).length) (ht : ∀ (j : Nat) t a, ([3, 24, 24] : List TypeId)[j]? = some t → ars[j]? = some a → TyV Try.prog m t a)
    (_ : ∀ i o, m.get i = some o → own o = false) (hfresh : ∀ i, n ≤ i → m.get i = none) : Wc Try.prog fLaw13LsdbCompare ars m n fun v _ _ => v = .bool true := by
  match ars, hl with
  | [a, b, c], _ =>
    have ha : TyV Try.prog m tInt a := ht 0 3 a (by simp) (by simp)
    have hb : TyV Try.prog m tApiRecord b := ht 1 24 b (by simp) (by simp)
    have hc : TyV Try.prog m tApiRecord c := ht 2 24 c (by simp) (by simp)
    obtain ⟨x, rfl, _⟩ := TyV.int undInt ha
    obtain ⟨f1, cs1, rfl, hb1⟩ := TyV.st fldRec hb
    obtain ⟨f2, cs2, rfl, hc1⟩ := TyV.st fldRec hc
    obtain ⟨a0, a1, p, k, xs, rfl, hx⟩ := rec_of hfresh hb1
    obtain ⟨b0, b1, q, l, ys, rfl, hy⟩ := rec_of hfresh hc1
    exact compare_law hx hy fun _ _ => rfl
end Go.Proofs.Ytjjgdapagphleaa
