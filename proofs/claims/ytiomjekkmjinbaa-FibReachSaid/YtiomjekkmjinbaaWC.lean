/- WC: what parts of the program compute; helper of the claim. -/
import Derived.Test.YtiomjekkmjinbaaWA
import Derived.Test.YtiomjekkmjinbaaWB
set_option maxRecDepth 100000
namespace Go.Proofs.Ytiomjekkmjinbaa
open Go Go.Ab Spf
section
variable {m m' m0 : Mem} {n n' n0 : Nat} {N f t : Int} {L : List Lk} {U : List Bool} {la ua : Option Addr} {ll lc ul uc : Nat}
/-- A loopback address. -/
def lo (x : Int) : Int := 184483841 + x
theorem u32_id {z : Int} (h0 : 0 ≤ z) (h1 : z < 4294967296) : IntKind.u32.wrap z = z := by
  have : IntKind.u32.wrap z = z % 4294967296 := rfl
  omega
theorem lo_wrap {x : Int} (h0 : 0 ≤ x) (h1 : x < 32) : IntKind.u32.wrap (IntKind.u32.wrap (184483840 + IntKind.u32.wrap x) + 1) = lo x := by
  rw [u32_id (z := x) (by omega) (by omega), u32_id (z := 184483840 + x) (by omega) (by omega), u32_id (by omega) (by omega)]
  unfold lo; omega
theorem loopback_c {x : Int} (h0 : 0 ≤ x) (h1 : x < 32) {Q : Value → Mem → Nat → Prop} (hq : Q (.tuple ⟨[.int .u32 (lo x), vi 0]⟩) m n) : Wc Try.prog fAddrLoopback [vi x] m n Q := by
  refine Wc_of mixed (cfg := xcfg) (fuel := 400) ?_
  rw [xAddrLoopback, lo_wrap h0 h1]
  exact condDF (by omega) (condDF (by omega) hq)
theorem loop_c {x : Int} (h0 : 0 ≤ x) (h1 : x < 32) {Q : Value → Mem → Nat → Prop} (hq : Q (.int .u32 (lo x)) m n) : Wc Try.prog fLaw14loop [vi x] m n Q := by
  refine Wc_of mixed (cfg := xcfg) (fuel := 400) ?_
  rw [xLaw14loop]
  exact loopback_c h0 h1 ⟨_, _, rfl, Later.mk hq⟩

/-- An entry in memory. -/
structure ERow where
  dst : Int
  a : Option Addr
  xs : List Int
def encE (r : ERow) : List Value := [.int .u32 r.dst, .slice r.a r.xs.length r.xs.length]
theorem encE_len (r : ERow) : (encE r).length = 2 := rfl
def ERow.key (r : ERow) : Int × List Int := (r.dst, r.xs)
def EntO (m : Mem) (n0 n : Nat) (rows : List ERow) : Prop := ∀ r ∈ rows, Ow m n0 n tInt 1 r.a r.xs.length r.xs.length (r.xs.map vi)
theorem EntO.le {rows : List ERow} (h : EntO m n0 n rows) (k : Le m n m' n') : EntO m' n0 n' rows := fun r hr => (h r hr).le k
theorem entOk : elemOk Try.prog tLapiEntry tApiEntry 2 = true := by kernel_rfl
theorem flat_len {α : Type} {enc : α → List Value} {k : Nat} (h : ∀ x, (enc x).length = k) (l : List α) : (l.flatMap enc).length = l.length * k := by
  induction l with
  | nil => simp [-Bool.exists_bool]
  | cons x l ih => simp only [List.flatMap_cons, List.length_append, ih, h, List.length_cons, Nat.add_mul]; omega
theorem one_row {T sz k : Nat} {vs : List Value} (h : m.get k = some (.cells none T sz vs)) (hl : vs.length = sz) : sliceCells m sz 1 (.slice (some ⟨k, 0, none⟩) 1 1) = some vs := by
  simp [-Bool.exists_bool, sliceCells, cellsOf, h, takeAt, ← hl]
theorem ents_push {rows : List ERow} {oa : Option Addr} (hb : rows.length ≤ 1000) (h0 : n0 ≤ n) (how : Ow m n0 n tApiEntry 2 oa rows.length rows.length (rows.flatMap encE)) (he : EntO m n0 n rows) {r : ERow} (hr : Ow m n0 n tInt 1 r.a r.xs.length r.xs.length (r.xs.map vi))
    (hle : Le m0 n0 m n) (hfs : Fs m0 n0 → Fs m n) : ∃ a5 m5 n5, appendA Try.prog (m.set n (.cells none tApiEntry 2 (encE r))) (n + 1) tLapiEntry tLapiEntry (.slice oa rows.length rows.length) (.slice (some ⟨n, 0, none⟩) 1 1) = .val (.slice a5 (rows.length + 1) (rows.length + 1)) m5 n5 ∧
      Ow m5 n0 n5 tApiEntry 2 a5 (rows.length + 1) (rows.length + 1) ((rows ++ [r]).flatMap encE) ∧ EntO m5 n0 n5 (rows ++ [r]) ∧ Le m0 n0 m5 n5 ∧ (Fs m0 n0 → Fs m5 n5) := by
  generalize hm4 : m.set n (.cells none tApiEntry 2 (encE r)) = m4
  have k4 : ∀ j, j ≠ n → m4.get j = m.get j := fun j hj => by rw [← hm4, Tr.get_set, if_neg (fun e => hj e.symm)]
  have hsc : sliceCells m4 2 1 (.slice (some ⟨n, 0, none⟩) 1 1) = some (encE r) := one_row (T := tApiEntry) (sz := 2) (by rw [← hm4]; simp [-Bool.exists_bool, Tr.get_set]) rfl
  have how4 : Ow m4 n0 (n + 1) tApiEntry 2 oa rows.length rows.length (rows.flatMap encE) := how.same (by omega) fun b o s e => k4 b (by have := (how.bnd e).2; omega)
  obtain ⟨a5, m5, n5, r1, r2, r3, r4, r5, r6⟩ := how4.append (t := tLapiEntry) (k := 1) entOk hsc (by simp [-Bool.exists_bool, encE, cellOk]) (by simp [-Bool.exists_bool, encE]) (by omega) (by omega)
  have hl := hle.le
  refine ⟨a5, m5, n5, r1, by simpa [-Bool.exists_bool] using r2, fun q hq => ?_, ⟨by omega, fun q hq => ?_⟩, fun hf => r6 fun q hq => by rw [k4 q (by omega)]; exact hfs hf q (by omega)⟩
  · have ho : Ow m n0 n tInt 1 q.a q.xs.length q.xs.length (q.xs.map vi) := by
      rcases List.mem_append.1 hq with hq | hq
      · exact he q hq
      · rw [List.mem_singleton.1 hq]; exact hr
    refine ho.same (by omega) fun b o s e => ?_
    have hbn := (ho.bnd e).2
    rw [r5 b (by omega) fun b' o' s' e' => ?_, k4 b (by omega)]
    intro heq
    subst heq
    obtain ⟨_, _, h3⟩ := ho
    obtain ⟨_, _, g3⟩ := how
    rcases h3 with ⟨h3, _⟩ | ⟨b1, o1, s1, full, q1, q2, q3, q4, _⟩
    · rw [h3] at e; cases e
    · rcases g3 with ⟨g3, _⟩ | ⟨b2, o2, s2, full2, p1, p2, p3, p4, _⟩
      · rw [g3] at e'; cases e'
      · rw [q1] at e; cases e
        rw [p1] at e'; cases e'
        rw [q4] at p4
        exact absurd p4 (by simp [-Bool.exists_bool])
  · rw [r5 q (by omega) fun b o s e => by have := (how.bnd e).1; omega, k4 q (by omega)]; exact hle.same q hq

/-- The entries of the first nodes. -/
def OfL (N : Int) (L : List Lk) (U : List Bool) (f : Int) : Nat → List (Int × List Int) → Prop
  | 0, E => E = []
  | k + 1, E => ∃ E' D, OfL N L U f k E' ∧ NextR N L U f k D ∧ E = if D = [] then E' else E' ++ [(lo k, D)]
theorem OfL.uniq : ∀ {k : Nat} {E F : List (Int × List Int)}, OfL N L U f k E → OfL N L U f k F → E = F
  | 0, _, _, h, g => h.trans g.symm
  | k + 1, _, _, ⟨E, D, h1, h2, h3⟩, ⟨F, C, g1, g2, g3⟩ => by rw [h3, g3, h1.uniq g1, h2.uniq g2]
theorem OfL.len : ∀ {k : Nat} {E : List (Int × List Int)}, OfL N L U f k E → E.length ≤ k
  | 0, _, h => by rw [h]; simp [-Bool.exists_bool]
  | k + 1, _, ⟨E, D, h1, _, h3⟩ => by have := h1.len; rw [h3]; split <;> simp [-Bool.exists_bool] <;> omega
def OfR (N : Int) (L : List Lk) (U : List Bool) (f : Int) (E : List (Int × List Int)) : Prop := if validP N L U.length [f] = true then OfL N L U f N.toNat E else E = []
theorem OfR.uniq {E F : List (Int × List Int)} (h : OfR N L U f E) (g : OfR N L U f F) : E = F := by
  unfold OfR at h g
  split at h
  · rw [if_pos ‹_›] at g; exact h.uniq g
  · rw [if_neg ‹_›] at g; exact h.trans g.symm
end
end Go.Proofs.Ytiomjekkmjinbaa

set_option maxRecDepth 100000
namespace Go.Proofs.Ytiomjekkmjinbaa
open Go Go.Ab Spf
section
variable {m m' m0 : Mem} {n n' n0 : Nat} {N f t : Int} {L : List Lk} {U : List Bool} {la ua : Option Addr} {ll lc ul uc : Nat}
theorem OfL.nil {k : Nat} {E : List (Int × List Int)} (h : OfL N L U f k E) (d : NextR N L U f k []) : OfL N L U f (k + 1) E := ⟨E, [], h, d, by simp⟩
theorem OfL.cons {k : Nat} {E : List (Int × List Int)} {D : List Int} (h : OfL N L U f k E) (d : NextR N L U f k D) (hD : D ≠ []) : OfL N L U f (k + 1) (E ++ [(lo k, D)]) := ⟨E, D, h, d, by rw [if_neg hD]⟩
theorem of_loop (hN : N ≤ 32) (hL : Sl m0 n0 la lc (L.flatMap encL)) (hU : Sl m0 n0 ua uc (U.map Value.bool)) :
    ∀ (k i : Nat) (rows : List ERow) (m : Mem) (n : Nat) (oa : Option Addr), (i : Int) + k = N → OfL N L U f i (rows.map ERow.key) → Ow m n0 n tApiEntry 2 oa rows.length rows.length (rows.flatMap encE) → EntO m n0 n rows → Le m0 n0 m n → (Fs m0 n0 → Fs m n) →
    ∃ m' n' a' rows', OfL N L U f N.toNat (rows'.map ERow.key) ∧ Ow m' n0 n' tApiEntry 2 a' rows'.length rows'.length (rows'.flatMap encE) ∧ EntO m' n0 n' rows' ∧ Le m0 n0 m' n' ∧ (Fs m0 n0 → Fs m' n') ∧ ∀ Q : Value → Mem → Nat → Prop, Q (.slice a' rows'.length rows'.length) m' n' →
      W Try.prog { fn := fFibOf, nt := 47, slots := [(0, vi N), (1, .slice la L.length lc), (2, .slice ua U.length uc), (3, vi f), (9, .slice oa rows.length rows.length), (21, vi N), (22, vi i)], todo := pt Try.prog fFibOf [1, 1, 1, 0, 1, 0, 0] } m n Q := by
  intro k
  induction k with
  | zero =>
    intro i rows m n oa h ho how he hle hfs
    refine ⟨m, n, oa, rows, by rw [show N.toNat = i by omega]; exact ho, how, he, hle, hfs, fun Q hq => ?_⟩
    refine W_of mixed (cfg := xcfg) (fuel := 400) ?_
    rw [xFibOfk0]
    exact condDF (by omega) hq
  | succ k ih =>
    intro i rows m n oa h ho how he hle hfs
    have hw := wrapN (k := i) (by omega)
    have hrl : rows.length ≤ i := by have := ho.len; simpa [-Bool.exists_bool] using this
    obtain ⟨m1, n1, pa, D, hD, ow1, le1, fs1, run1⟩ := next_c (N := N) (f := f) (t := (i : Int)) (ll := L.length) (ul := U.length) rfl rfl (hL.le hle) (hU.le hle)
    have hle1 := hle.trans le1
    have h0 := hle.le
    have h01 := hle1.le
    by_cases hne : D = []
    · subst hne
      obtain ⟨m', n', a', rows', r1, r2, r3, r4, r5, run⟩ := ih (i + 1) rows m1 n1 oa (by omega) (ho.nil hD) (how.le le1) (he.le le1) hle1 (fun hf => fs1 (hfs hf))
      refine ⟨m', n', a', rows', r1, r2, r3, r4, r5, fun Q hq => ?_⟩
      refine W_of mixed (cfg := xcfg) (fuel := 400) ?_
      rw [xFibOfk0, hw]
      exact condDT (by omega) (run1 _ ⟨_, _, _, rfl, Later.mk (condDF (by simp [-Bool.exists_bool]) (run Q hq))⟩)
    · have hpos : 0 < D.length := List.length_pos_iff.2 hne
      obtain ⟨a5, m5, n5, q1, q2, q3, q4, q5⟩ := ents_push (r := ⟨lo i, pa, D⟩) (by omega) h01 (how.le le1) (he.le le1) (ow1.low h0) hle1 (fun hf => fs1 (hfs hf))
      have el : (rows ++ [(⟨lo i, pa, D⟩ : ERow)]).length = rows.length + 1 := by simp [-Bool.exists_bool]
      obtain ⟨m', n', a', rows', r1, r2, r3, r4, r5, run⟩ := ih (i + 1) (rows ++ [⟨lo i, pa, D⟩]) m5 n5 a5 (by omega) (by simpa [-Bool.exists_bool, ERow.key] using ho.cons hD hne) (by rw [el]; exact q2) q3 q4 q5
      refine ⟨m', n', a', rows', r1, r2, r3, r4, r5, fun Q hq => ?_⟩
      have fin := run Q hq
      rw [el] at fin
      refine W_of mixed (cfg := xcfg) (fuel := 400) ?_
      rw [xFibOfk0, hw]
      exact condDT (by omega) (run1 _ ⟨_, _, _, rfl, Later.mk (condDT (by omega) (loopback_c (by omega) (by omega) ⟨_, _, rfl, Later.mk (memLet.mk fun mm e => by
        subst e
        exact ⟨_, _, _, _, _, q1, fin⟩)⟩))⟩)
theorem of_c (hll : L.length = ll) (hul : U.length = ul) (hL : Sl m n la lc (L.flatMap encL)) (hU : Sl m n ua uc (U.map Value.bool)) :
    ∃ m' n' a rows, OfR N L U f (rows.map ERow.key) ∧ Ow m' n n' tApiEntry 2 a rows.length rows.length (rows.flatMap encE) ∧ EntO m' n n' rows ∧ Le m n m' n' ∧ (Fs m n → Fs m' n') ∧ Exact Try.prog fFibOf [vi N, .slice la ll lc, .slice ua ul uc, vi f] m n (.slice a rows.length rows.length) m' n' := by
  subst hll; subst hul
  obtain ⟨m1, n1, a1, D, hD, ow1, le1, fs1, run1⟩ := dist_c (N := N) (f := f) (ll := L.length) (ul := U.length) rfl rfl hL hU
  cases hv : validP N L U.length [f] with
  | false =>
    have hD0 : D = [] := by unfold DistR at hD; rw [if_neg (by simp [-Bool.exists_bool, hv])] at hD; exact hD
    subst hD0
    refine ⟨m1, n1, none, [], by unfold OfR; rw [if_neg (by simp [-Bool.exists_bool, hv])]; rfl, Ow.nil, (fun _ h => nomatch h), le1, fs1, fun Q hq => ?_⟩
    refine Wc_of mixed (cfg := xcfg) (fuel := 400) ?_
    rw [xFibOf]
    exact run1 _ ⟨_, _, _, rfl, Later.mk (condET rfl hq)⟩
  | true =>
    obtain ⟨hg, e1, e2, e3, e4, e5, e6⟩ := valid_iff hv
    have hN := hg.big
    obtain ⟨_, hf2⟩ := e6 f (by simp [-Bool.exists_bool])
    have hlen : D.length = N.toNat := by unfold DistR at hD; rw [if_pos hv] at hD; exact hD.len
    have hNN : (mkG N L U).N = N.toNat := rfl
    obtain ⟨m', n', a', rows', r1, r2, r3, r4, r5, run⟩ := of_loop (N := N) (f := f) (m0 := m1) (n0 := n1) (by omega) (hL.le le1) (hU.le le1) N.toNat 0 [] m1 n1 none (by omega) rfl Ow.nil (fun _ h => nomatch h) Le.refl id
    refine ⟨m', n', a', rows', by unfold OfR; rw [if_pos hv]; exact r1, r2.low le1.le, fun r hr => (r3 r hr).low le1.le, le1.trans r4, fun hf => r5 (fs1 hf), fun Q hq => ?_⟩
    refine Wc_of mixed (cfg := xcfg) (fuel := 400) ?_
    rw [xFibOf]
    exact run1 _ ⟨_, _, _, rfl, Later.mk (condEF (by omega) (run Q hq))⟩
end
end Go.Proofs.Ytiomjekkmjinbaa

set_option maxRecDepth 100000
namespace Go.Proofs.Ytiomjekkmjinbaa
open Go Go.Ab Spf
section
variable {m m' m0 : Mem} {n n' n0 : Nat} {N f t : Int} {L : List Lk} {U : List Bool} {la ua : Option Addr} {ll lc ul uc : Nat}
def EntS (m : Mem) (n : Nat) (rows : List ERow) : Prop := ∀ r ∈ rows, Sl m n r.a r.xs.length (r.xs.map vi) ∧ r.xs.length ≤ 9223372036854775807
theorem EntS.up {rows : List ERow} (h : EntS m n rows) (k : n ≤ n') : EntS m n' rows := fun r hr => ⟨(h r hr).1.same k fun _ _ _ _ => rfl, (h r hr).2⟩
theorem EntS.le {rows : List ERow} (h : EntS m n rows) (k : Le m n m' n') : EntS m' n' rows := fun r hr => ⟨(h r hr).1.le k, (h r hr).2⟩
theorem entries_loop {A B : List ERow} {aa ba : Option Addr} {ac bc : Nat} (hA : Sl m n0 aa ac (A.flatMap encE)) (hB : Sl m n0 ba bc (B.flatMap encE)) (eA : EntS m n0 A) (eB : EntS m n0 B) (hl : A.length = B.length) (hbig : A.length ≤ 9223372036854775807) :
    ∀ (l pre : List ERow) (n : Nat), A = pre ++ l → n0 ≤ n → W Try.prog { fn := fLaw14entries, nt := 42, slots := [(0, .slice aa A.length ac), (1, .slice ba B.length bc), (5, .int .i64 pre.length)], todo := pt Try.prog fLaw14entries [1, 1, 0, 1, 0, 0] } m n fun v m' n' => v = .bool (decide (l.map ERow.key = (B.drop pre.length).map ERow.key)) ∧ Le m n0 m' n'
  | [], pre, n, h, hn => by
    refine W_of mixed (cfg := xcfg) (fuel := 400) ?_
    rw [xLaw14entriesk0]
    simp only [List.append_nil] at h
    refine condDF (by simp [-Bool.exists_bool, h]) ⟨?_, Le.refl.up hn⟩
    subst h; rw [hl]; simp [-Bool.exists_bool]
  | y :: l, pre, n, h, hn => by
    have hlt : pre.length < A.length := by simp [-Bool.exists_bool, h]
    have hltb : pre.length < B.length := by omega
    have hy : A[pre.length] = y := by simp [-Bool.exists_bool, h]
    have hlen : (((pre ++ [y]).length : Nat) : Int) = ((pre.length + 1 : Nat) : Int) := by simp [-Bool.exists_bool]
    have nxt := entries_loop hA hB eA eB hl hbig l (pre ++ [y]) (n + 25) (by simp [-Bool.exists_bool, h]) (by omega)
    rw [hlen, ← wrapN (k := pre.length) (by omega)] at nxt
    have hd : B.drop pre.length = B[pre.length] :: B.drop (pre.length + 1) := List.drop_eq_getElem_cons hltb
    have ey := eA y (by rw [h]; simp [-Bool.exists_bool])
    have eb := eB B[pre.length] (List.getElem_mem hltb)
    generalize hb : B[pre.length] = b at hd eb
    refine W_of mixed (cfg := xcfg) (fuel := 400) ?_
    rw [xLaw14entriesk0]
    refine condDT (by omega) (hA.ldv encE_len hlt (by omega) fun b1 o1 s1 i1 r1 _ => ⟨i1, y.dst, r1 0 _ (by rw [hy]; rfl), ?_⟩)
    refine hB.ldv encE_len hltb (by omega) fun b2 o2 s2 i2 r2 _ => ⟨i2, b.dst, r2 0 _ (by rw [hb]; rfl), ?_⟩
    refine condN (fun hne => ⟨?_, Le.refl.up (by omega)⟩) fun he => ?_
    · rw [hd, decide_eq_false (fun e => hne (by have := (List.cons.inj e).1; exact congrArg Prod.fst this))]
    · refine hA.ldv encE_len hlt (by omega) fun b1 o1 s1 i1 r1 _ => ⟨i1, y.a, y.xs.length, y.xs.length, r1 1 _ (by rw [hy]; rfl), ?_⟩
      refine hB.ldv encE_len hltb (by omega) fun b2 o2 s2 i2 r2 _ => ⟨i2, b.a, b.xs.length, b.xs.length, r2 1 _ (by rw [hb]; rfl), ?_⟩
      refine ⟨_, _, _, same_c rfl rfl (ey.1.same (by omega) fun _ _ _ _ => rfl) (eb.1.same (by omega) fun _ _ _ _ => rfl) ey.2 ⟨rfl, rfl, rfl⟩, Later.mk ⟨Nat.le_refl _, ?_⟩⟩
      by_cases hx : y.xs = b.xs
      · refine condF (by simp [-Bool.exists_bool, hx]) ?_
        refine W.mono nxt fun v m' n' ⟨h1, h2⟩ => ⟨?_, h2⟩
        rw [h1, List.length_append, List.length_singleton]
        congr 1
        refine bool_congr ?_
        simp only [decide_eq_true_eq]
        rw [hd, List.map_cons, List.map_cons]
        refine ⟨fun e => ?_, fun e => (List.cons.inj e).2⟩
        rw [e]
        congr 1
        unfold ERow.key
        rw [he, hx]
      · refine condT (by simp [-Bool.exists_bool, hx]) ⟨?_, Le.refl.up (by omega)⟩
        rw [hd, decide_eq_false (fun e => hx (by have := (List.cons.inj e).1; exact congrArg Prod.snd this))]
theorem entries_c {A B : List ERow} {aa ba : Option Addr} {al bl ac bc : Nat} (e1 : A.length = al) (e2 : B.length = bl) (hA : Sl m n aa ac (A.flatMap encE)) (hB : Sl m n ba bc (B.flatMap encE)) (eA : EntS m n A) (eB : EntS m n B) (hbig : A.length ≤ 9223372036854775807)
    {Q : Value → Mem → Nat → Prop} (hq : Q (.bool (decide (A.map ERow.key = B.map ERow.key))) m n) : Wc Try.prog fLaw14entries [.slice aa al ac, .slice ba bl bc] m n Q := by
  subst e1; subst e2
  refine Wc.scalar ?_ rfl hq
  refine Wc_of mixed (cfg := xcfg) (fuel := 400) ?_
  rw [xLaw14entries]
  refine condN (fun h => ⟨?_, Le.refl⟩) fun h => ?_
  · rw [decide_eq_false (fun e => h (by have := congrArg List.length e; simp [-Bool.exists_bool] at this; omega))]
  · exact entries_loop hA hB eA eB (by omega) hbig A [] n rfl (Nat.le_refl _)
theorem EntO.s {rows : List ERow} (h : EntO m n0 n rows) (hb : ∀ r ∈ rows, r.xs.length ≤ 1000) : EntS m n rows := fun r hr => ⟨(h r hr).sl, by have := hb r hr; omega⟩
theorem NextR.len {D : List Int} (h : NextR N L U f t D) : D.length ≤ 128 := by
  unfold NextR at h
  split at h
  · rename_i hv
    obtain ⟨hg, _⟩ := valid_iff hv
    obtain ⟨d, hd, rfl⟩ := h
    exact next_len hg
  · rw [h]; simp [-Bool.exists_bool]
theorem OfL.lens : ∀ {k : Nat} {E : List (Int × List Int)}, OfL N L U f k E → ∀ e ∈ E, e.2.length ≤ 128
  | 0, _, h, e, he => by rw [h] at he; cases he
  | k + 1, _, ⟨E, D, h1, h2, h3⟩, e, he => by
    rw [h3] at he
    split at he
    · exact h1.lens e he
    · rcases List.mem_append.1 he with he | he
      · exact h1.lens e he
      · rw [List.mem_singleton.1 he]; exact h2.len
theorem OfR.lens {E : List (Int × List Int)} (h : OfR N L U f E) : ∀ e ∈ E, e.2.length ≤ 128 := by
  unfold OfR at h
  split at h
  · exact h.lens
  · rw [h]; exact fun _ h => nomatch h
theorem OfR.rows {rows : List ERow} (h : OfR N L U f (rows.map ERow.key)) : ∀ r ∈ rows, r.xs.length ≤ 1000 := fun r hr => by
  have := h.lens r.key (List.mem_map_of_mem hr)
  have h2 : r.xs.length ≤ 128 := this
  omega
end
end Go.Proofs.Ytiomjekkmjinbaa

set_option maxRecDepth 100000
namespace Go.Proofs.Ytiomjekkmjinbaa
open Go Go.Ab Spf
section
variable {m m' m0 : Mem} {n n' n0 : Nat}
def cmpI (x y : Int) : Int := if x < y then -1 else if x > y then 1 else 0
theorem cmpIP_c {x y : Int} {Q : Value → Mem → Nat → Prop} (hq : Q (vi (cmpI x y)) m n) : Wc Try.prog fCmpCompareapiIP [.int .u32 x, .int .u32 y] m n Q := by
  refine Wc_of mixed (cfg := xcfg) (fuel := 400) ?_
  rw [xCmpCompareapiIP]
  refine Wc_of mixed (cfg := xcfg) (fuel := 400) ?_
  rw [xCmpisNaNapiIP]
  refine ⟨_, rfl, Later.mk (Wc_of mixed (cfg := xcfg) (fuel := 400) ?_)⟩
  rw [xCmpisNaNapiIP]
  refine ⟨_, rfl, Later.mk (condF (by simp [-Bool.exists_bool]) (condF (by simp [-Bool.exists_bool]) ?_))⟩
  unfold cmpI at hq
  by_cases h1 : x < y
  · rw [if_pos h1] at hq; exact condDT h1 hq
  · rw [if_neg h1] at hq
    refine condDF h1 ?_
    by_cases h2 : x > y
    · rw [if_pos h2] at hq; exact condDT h2 hq
    · rw [if_neg h2] at hq; exact condDF h2 hq
theorem cmpE_c {r : ERow} {y : Int} {Q : Value → Mem → Nat → Prop} (hq : Q (vi (cmpI r.dst y)) m n) : Wc Try.prog fFibentrycompare [.agg ⟨encE r⟩, .int .u32 y] m n Q := by
  refine Wc.scalar ?_ rfl hq
  refine Wc_of mixed (cfg := xcfg) (fuel := 400) ?_
  unfold encE
  rw [xFibentrycompare]
  refine memLet.mk fun m1 e => ?_
  have g : m1.get n = some (.cells none tFibentry 2 [.int .u32 r.dst, .slice r.a r.xs.length r.xs.length]) := by rw [e]; simp [-Bool.exists_bool, Tr.get_set]
  exact ⟨isC_of g, _, rd_of g rfl, cmpIP_c ⟨_, rfl, Later.mk ⟨rfl, by rw [e]; exact Le.new⟩⟩⟩
/-- What a search finds. -/
def FindR (rows : List ERow) (y x : Int) (b : Bool) : Prop :=
  if b = true then ∃ (j : Nat) (h : j < rows.length), x = (j : Int) ∧ rows[j].dst = y else ∀ r ∈ rows, r.dst ≠ y
def AscE (rows : List ERow) : Prop := rows.Pairwise fun a b => a.dst < b.dst
theorem AscE.at {rows : List ERow} (h : AscE rows) {i j : Nat} (hij : i < j) (hj : j < rows.length) : rows[i].dst < rows[j].dst :=
  List.pairwise_iff_getElem.1 h i j (by omega) hj hij
theorem half {i j : Nat} (h : i + j ≤ 1000000) : IntKind.i64.wrap ((IntKind.u64.wrap (IntKind.i64.wrap ((i : Int) + j))).fdiv 2) = (((i + j) / 2 : Nat) : Int) := by
  rw [wrap_id (x := (i : Int) + j) (by omega) (by omega)]
  have : IntKind.u64.wrap ((i : Int) + j) = (i : Int) + j := by
    have : IntKind.u64.wrap ((i : Int) + j) = ((i : Int) + j) % 18446744073709551616 := rfl
    omega
  rw [this, Int.fdiv_eq_ediv_of_nonneg _ (by omega), wrap_id (by omega) (by omega)]
  omega
theorem bin_loop {rows : List ERow} {ea : Option Addr} {ec : Nat} {y : Int} (hb : rows.length ≤ 1000) (ha : AscE rows) (hE : Sl m n ea ec (rows.flatMap encE)) : ∀ (k i j : Nat), j - i ≤ k → i ≤ j → j ≤ rows.length → (∀ q (h : q < rows.length), q < i → rows[q].dst < y) → (∀ q (h : q < rows.length), j ≤ q → y ≤ rows[q].dst) →
    ∃ x b, FindR rows y x b ∧ ∀ Q : Value → Mem → Nat → Prop, Q (.tuple ⟨[vi x, .bool b]⟩) m n → W Try.prog { fn := fSlicesBinarySearchFuncLfibentryfibentryapiIP, nt := 49, slots := [(0, .slice ea rows.length ec), (1, .int .u32 y), (2, .func (.func fFibentrycompare) ⟨[]⟩ ⟨[]⟩), (8, vi rows.length), (9, vi i), (10, vi j)], todo := pt Try.prog fSlicesBinarySearchFuncLfibentryfibentryapiIP [1, 1, 1, 0, 0, 0] } m n Q := by
  intro k
  induction k with
  | zero =>
    intro i j hk hij hj h1 h2
    have : i = j := by omega
    subst this
    by_cases hi : i < rows.length
    · by_cases he : rows[i].dst = y
      · refine ⟨i, true, by unfold FindR; rw [if_pos rfl]; exact ⟨i, hi, rfl, he⟩, fun Q hq => ?_⟩
        refine W_of mixed (cfg := xcfg) (fuel := 400) ?_
        rw [xSlicesBinarySearchFuncLfibentryfibentryapiIPk0]
        refine condDF (by omega) (condDT (by omega) (hE.ldv encE_len hi (by omega) fun b o s _ _ r => ⟨_, _, _, _, r, cmpE_c (r := rows[i]) ⟨_, rfl, Later.mk ?_⟩⟩))
        have : (cmpI rows[i].dst y == 0) = true := by unfold cmpI; rw [he]; simp [-Bool.exists_bool]
        rw [this]; exact hq
      · refine ⟨i, false, by
          unfold FindR; rw [if_neg (by simp [-Bool.exists_bool])]; intro r hr hry
          obtain ⟨q, hq, rfl⟩ := List.getElem_of_mem hr
          rcases Nat.lt_trichotomy q i with h | h | h
          · have := h1 q hq h; omega
          · subst h; exact he hry
          · have := ha.at h hq; have := h2 i hi (by omega); omega, fun Q hq => ?_⟩
        refine W_of mixed (cfg := xcfg) (fuel := 400) ?_
        rw [xSlicesBinarySearchFuncLfibentryfibentryapiIPk0]
        refine condDF (by omega) (condDT (by omega) (hE.ldv encE_len hi (by omega) fun b o s _ _ r => ⟨_, _, _, _, r, cmpE_c (r := rows[i]) ⟨_, rfl, Later.mk ?_⟩⟩))
        have : (cmpI rows[i].dst y == 0) = false := by unfold cmpI; by_cases g : rows[i].dst < y <;> by_cases g' : rows[i].dst > y <;> simp [-Bool.exists_bool, g, g'] <;> omega
        rw [this]; exact hq
    · refine ⟨i, false, by
        unfold FindR; rw [if_neg (by simp [-Bool.exists_bool])]; intro r hr hry
        obtain ⟨q, hq, rfl⟩ := List.getElem_of_mem hr
        have := h1 q hq (by omega); omega, fun Q hq => ?_⟩
      refine W_of mixed (cfg := xcfg) (fuel := 400) ?_
      rw [xSlicesBinarySearchFuncLfibentryfibentryapiIPk0]
      exact condDF (by omega) (condDF (by omega) hq)
  | succ k ih =>
    intro i j hk hij hj h1 h2
    by_cases hlt : i < j
    · have hh : (i + j) / 2 < rows.length := by omega
      have hw := half (i := i) (j := j) (by omega)
      by_cases hc : rows[(i + j) / 2].dst < y
      · obtain ⟨x, b, hf, run⟩ := ih ((i + j) / 2 + 1) j (by omega) (by omega) hj (fun q hq hqi => by
          rcases Nat.lt_or_ge q ((i + j) / 2) with h | h
          · have := ha.at h hh; omega
          · have : q = (i + j) / 2 := by omega
            subst this; exact hc) h2
        refine ⟨x, b, hf, fun Q hq => ?_⟩
        refine W_of mixed (cfg := xcfg) (fuel := 400) ?_
        rw [xSlicesBinarySearchFuncLfibentryfibentryapiIPk0, hw, wrapN (by omega)]
        refine condDT (by omega) ⟨by omega, hE.ldv encE_len hh (by omega) fun b o s _ _ r => ⟨_, _, _, _, r, cmpE_c (r := rows[(i + j) / 2]) ⟨_, rfl, Later.mk (condDT ?_ (run Q hq))⟩⟩⟩
        unfold cmpI; rw [if_pos hc]; omega
      · obtain ⟨x, b, hf, run⟩ := ih i ((i + j) / 2) (by omega) (by omega) (by omega) h1 (fun q hq hqi => by
          rcases Nat.lt_or_ge ((i + j) / 2) q with h | h
          · have := ha.at h hq; omega
          · have : q = (i + j) / 2 := by omega
            subst this; omega)
        refine ⟨x, b, hf, fun Q hq => ?_⟩
        refine W_of mixed (cfg := xcfg) (fuel := 400) ?_
        rw [xSlicesBinarySearchFuncLfibentryfibentryapiIPk0, hw, wrapN (by omega)]
        refine condDT (by omega) ⟨by omega, hE.ldv encE_len hh (by omega) fun b o s _ _ r => ⟨_, _, _, _, r, cmpE_c (r := rows[(i + j) / 2]) ⟨_, rfl, Later.mk (condDF ?_ (run Q hq))⟩⟩⟩
        unfold cmpI; rw [if_neg hc]; split <;> omega
    · exact ih i j (by omega) hij hj h1 h2
theorem bin_c {rows : List ERow} {ea : Option Addr} {ec : Nat} {y : Int} (hb : rows.length ≤ 1000) (ha : AscE rows) (hE : Sl m n ea ec (rows.flatMap encE)) :
    ∃ x b, FindR rows y x b ∧ Exact Try.prog fSlicesBinarySearchFuncLfibentryfibentryapiIP [.slice ea rows.length ec, .int .u32 y, .func (.func fFibentrycompare) ⟨[]⟩ ⟨[]⟩] m n (.tuple ⟨[vi x, .bool b]⟩) m n := by
  obtain ⟨x, b, h, run⟩ := bin_loop (y := y) hb ha hE rows.length 0 rows.length (by omega) (by omega) (by omega) (fun q _ h => by omega) (fun q h h' => by omega)
  refine ⟨x, b, h, fun Q hq => ?_⟩
  refine Wc_of mixed (cfg := xcfg) (fuel := 400) ?_
  rw [xSlicesBinarySearchFuncLfibentryfibentryapiIP]
  exact run Q hq
theorem OfL.asc : ∀ {N f : Int} {L : List Lk} {U : List Bool} {k : Nat} {E : List (Int × List Int)}, OfL N L U f k E → E.Pairwise (fun a b => a.1 < b.1) ∧ ∀ e ∈ E, e.1 < lo k
  | _, _, _, _, 0, _, h => by rw [h]; exact ⟨List.Pairwise.nil, fun _ h => nomatch h⟩
  | _, _, _, _, k + 1, _, ⟨E, D, h1, h2, h3⟩ => by
    obtain ⟨g1, g2⟩ := h1.asc
    rw [h3]
    unfold lo at *
    split
    · exact ⟨g1, fun e he => by have := g2 e he; omega⟩
    · refine ⟨List.pairwise_append.2 ⟨g1, List.pairwise_singleton _ _, fun a ha b hb => ?_⟩, fun e he => ?_⟩
      · rw [List.mem_singleton.1 hb]; exact g2 a ha
      · rcases List.mem_append.1 he with he | he
        · have := g2 e he; omega
        · rw [List.mem_singleton.1 he]; simp only; omega
end
end Go.Proofs.Ytiomjekkmjinbaa

set_option maxRecDepth 100000
namespace Go.Proofs.Ytiomjekkmjinbaa
open Go Go.Ab Spf
section
variable {m m' m0 : Mem} {n n' n0 : Nat} {N me f : Int} {L : List Lk} {U : List Bool} {la ua : Option Addr} {ll lc ul uc : Nat}
/-- A new wheel, with its exact end. -/
theorem wheelNew_x {k : Nat} (hk : 0 < k) (hk2 : k ≤ 256) :
    ∃ m' n' w s b, Sp11.Whl m' n' w s b [] (List.replicate k (-1)) ∧ Le m n m' n' ∧ n ≤ w ∧ n ≤ s ∧ n ≤ b ∧ (∀ x, ¬ Sp11.memBlk m' s x) ∧ (Fs m n → Fs m' n') ∧ Exact Try.prog fSpreadNew [.int .i64 (k : Int)] m n (.tuple ⟨[pp w, .int .i64 0]⟩) m' n' := by
  generalize h0 : m.set n (.cells none tInt 1 [vi (-1)]) = m0
  have hsl : Sl m0 (n + 1) (some ⟨n, 0, none⟩) 1 [vi (-1)] := by rw [← h0]; exact (Ow.new (n0 := 0) (T := tInt) (sz := 1) (l := 1) (m := m) (cs := [vi (-1)]) (Nat.zero_le _) rfl).sl
  obtain ⟨m1, n1, g1, l1, s1, run⟩ := Sp11.repeat_c hsl hk (by omega)
  generalize e2 : m1.set n1 (.cells none tSpreadstate 2 [.slice none 0 0, .slice (some ⟨n + 1, 0, none⟩) k k]) = m2
  generalize e3 : m2.set (n1 + 1) (.cells none tSpreadWheel 1 [pp n1]) = m3
  have lo : ∀ i, i < n → m3.get i = m.get i := fun i hi => by
    rw [← e3, Tr.get_set, if_neg (by omega), ← e2, Tr.get_set, if_neg (by omega), s1 i (by omega), ← h0, Tr.get_set, if_neg (by omega)]
  have hb3 : m3.get (n + 1) = some (.cells none tInt 1 (List.replicate k (vi (-1)))) := by
    rw [← e3, Tr.get_set, if_neg (by omega), ← e2, Tr.get_set, if_neg (by omega)]; exact g1
  have hmap : (List.replicate k (-1 : Int)).map vi = List.replicate k (vi (-1)) := by simp [-Bool.exists_bool]
  have how : Ow m3 0 (n1 + 1 + 1) tInt 1 (some ⟨n + 1, 0, none⟩) (List.replicate k (-1 : Int)).length (List.replicate k (-1 : Int)).length ((List.replicate k (-1 : Int)).map vi) := by
    rw [hmap]
    exact ⟨rfl, by simp, .inr ⟨n + 1, 0, none, _, rfl, Nat.zero_le _, by omega, hb3, by simp, by simp⟩⟩
  have hs3 : m3.get n1 = some (.cells none tSpreadstate 2 [.slice none 0 0, .slice (some ⟨n + 1, 0, none⟩) k k]) := by
    rw [← e3, Tr.get_set, if_neg (by omega), ← e2]; simp [-Bool.exists_bool, Tr.get_set]
  refine ⟨m3, n1 + 1 + 1, n1 + 1, n1, n + 1, ⟨by rw [← e3]; simp [-Bool.exists_bool, Tr.get_set], by omega, by omega, by simp; omega, by simp; omega, none, 0, 0, none, ⟨by rw [hs3]; simp, Sl.nil, how.sl, by simp, by simp; omega⟩, how⟩, ⟨by omega, lo⟩, by omega, by omega, by omega, fun x hx => ?_, fun hf i hi => ?_, fun Q hq => ?_⟩
  · obtain ⟨o, s', l, c, r, e⟩ := hx
    rw [hs3] at e
    simp [-Bool.exists_bool] at e
  · rw [← e3, Tr.get_set, if_neg (by omega), ← e2, Tr.get_set, if_neg (by omega), s1 i (by omega), ← h0, Tr.get_set, if_neg (by omega)]; exact hf i (by omega)
  · refine Wc_of mixed (cfg := xcfg) (fuel := 400) ?_
    rw [xSpreadNew]
    refine condDF (by omega) (condDF (by omega) (memLet.mk fun ma ea => ?_))
    have ea : ma = m0 := ea.trans h0
    subst ea
    refine run _ ⟨_, _, _, rfl, Later.mk (memLet.mk fun mb eb => memLet.mk fun mc ec => ?_)⟩
    have eb : mb = m2 := eb.trans e2
    subst eb
    have ec : mc = m3 := ec.trans e3
    subst ec
    exact hq
theorem clonel_c {a : Option Addr} {c : Nat} (hx : Sl m n a c (L.flatMap encL)) (hl : L.length ≤ 1000) :
    ∃ a' m' n', Ow m' n n' tApiLink 3 a' L.length L.length (L.flatMap encL) ∧ Le m n m' n' ∧ (Fs m n → Fs m' n') ∧ Exact Try.prog fSlicesCloneLapiLinkapiLink [.slice a L.length c] m n (.slice a' L.length L.length) m' n' := by
  have hfl := flat_len encL_len L
  cases ha : a with
  | none =>
    have hX : L = [] := by
      rcases hx with ⟨_, h⟩ | ⟨b, o, s, full, h, _⟩
      · have := congrArg List.length h; rw [hfl] at this; exact List.length_eq_zero_iff.1 (by simp only [List.length_nil] at this; omega)
      · rw [ha] at h; cases h
    subst hX
    refine ⟨none, m, n, Ow.nil, Le.refl, fun h => h, fun Q hq => ?_⟩
    refine Wc_of mixed (cfg := xcfg) (fuel := 400) ?_
    rw [xSlicesCloneLapiLinkapiLink]
    exact hq
  | some p =>
    obtain ⟨b, o, s⟩ := p
    obtain ⟨r, hr, hre⟩ := hx.nilAt ha
    cases r with
    | true =>
      have hX : L = [] := by have := congrArg List.length (hre rfl); rw [hfl] at this; exact List.length_eq_zero_iff.1 (by simp only [List.length_nil] at this; omega)
      subst hX
      refine ⟨none, m, n, Ow.nil, Le.refl, fun h => h, fun Q hq => ?_⟩
      refine Wc_of mixed (cfg := xcfg) (fuel := 400) ?_
      rw [xSlicesCloneLapiLinkapiLink]
      exact ⟨true, hr, condT rfl hq⟩
    | false =>
      have h0 : Ow (m.set n (.cells none tApiLink 3 [])) n (n + 1) tApiLink 3 (some ⟨n, 0, none⟩) 0 0 [] := Ow.new (Nat.le_refl _) rfl
      have hle : Le m n (m.set n (.cells none tApiLink 3 [])) (n + 1) := Le.new
      have hall : (L.flatMap encL).all cellOk = true := by
        rw [List.all_eq_true]; intro v hv; obtain ⟨l, _, hv⟩ := List.mem_flatMap.1 hv
        simp [-Bool.exists_bool, encL] at hv; rcases hv with rfl | rfl | rfl <;> rfl
      obtain ⟨a', m', n', h1, h2, h3, h4, h5, h6⟩ := h0.append (t := tLapiLink) (k := L.length) linkOk ((hx.le hle).cells (by rw [hfl]) (by omega)) hall (by rw [hfl]) (by omega) (by omega)
      rw [Nat.zero_add] at h1 h2
      rw [List.nil_append] at h2
      refine ⟨a', m', n', h2, ⟨by omega, fun i hi => ?_⟩, fun hf => h6 (Fs.set hf), fun Q hq => ?_⟩
      · rw [h5 i (by omega) (by intro b o s e; cases e; omega)]; exact hle.same i hi
      · refine Wc_of mixed (cfg := xcfg) (fuel := 400) ?_
        rw [xSlicesCloneLapiLinkapiLink]
        subst ha
        exact ⟨false, hr, condF rfl (memLet.mk fun m0 hm => by subst hm; exact ⟨_, _, _, _, _, h1, hq⟩)⟩
/-- A wheel of a table. -/
structure WR where
  node : Nat
  w : Nat
  s : Nat
  b : Nat
  M : List Int
  B : List Int
def WR.kv (r : WR) : Value × Value := (vi r.node, pp r.w)
theorem ws_keys (ws : List WR) : (ws.map WR.kv).all (fun e => Ab.keyOf .i64 e.1) = true := by
  rw [List.all_eq_true]
  intro x hx
  obtain ⟨e, _, rfl⟩ := List.mem_map.1 hx
  simp [-Bool.exists_bool, WR.kv, Ab.keyOf]
theorem ws_find : ∀ {ws : List WR} {k j : Nat}, (∀ i (h : i < ws.length), ws[i].node = k + i) → (ws.map WR.kv).find? (fun e => keyIs .i64 ((k + j : Nat) : Int) e.1) = (ws[j]?).map WR.kv
  | [], _, _, _ => rfl
  | r :: ws, k, j, h => by
    have h0 := h 0 (by simp [-Bool.exists_bool])
    simp only [List.getElem_cons_zero, Nat.add_zero] at h0
    have hk : keyIs .i64 ((k + j : Nat) : Int) (WR.kv r).1 = decide (j = 0) := by
      simp only [WR.kv, keyIs, h0]
      by_cases hj : j = 0
      · subst hj; simp [-Bool.exists_bool]
      · simp [-Bool.exists_bool, hj]; omega
    simp only [List.map_cons, List.find?_cons, hk]
    cases j with
    | zero => simp [-Bool.exists_bool]
    | succ j =>
      have := ws_find (ws := ws) (k := k + 1) (j := j) (fun i hi => by
        have := h (i + 1) (by simpa [-Bool.exists_bool] using hi)
        simp only [List.getElem_cons_succ] at this
        omega)
      rw [show k + 1 + j = k + (j + 1) by omega] at this
      simpa [-Bool.exists_bool] using this
theorem ws_any {ws : List WR} (h : ∀ i (h : i < ws.length), ws[i].node = i) : (ws.map WR.kv).any (fun e => keyIs .i64 ((ws.length : Nat) : Int) e.1) = false := by
  rw [List.any_eq_false]
  intro x hx
  obtain ⟨r, hr, rfl⟩ := List.mem_map.1 hx
  obtain ⟨i, hi, rfl⟩ := List.getElem_of_mem hr
  have := h i hi
  simp [-Bool.exists_bool, WR.kv, keyIs, this]
  omega
/-- A forwarding table. -/
structure FibS (m : Mem) (n0 n f s mp : Nat) (N me : Int) (L : List Lk) (rows : List ERow) (ws : List WR) : Prop where
  gf : m.get f = some (.cells none tFibFib 1 [pp s])
  gs : ∃ la ea, m.get s = some (.cells none tFibstate 5 [vi N, vi me, .slice la L.length L.length, .slice ea rows.length rows.length, .map (some mp)]) ∧ Ow m n0 n tApiLink 3 la L.length L.length (L.flatMap encL) ∧ Ow m n0 n tFibentry 2 ea rows.length rows.length (rows.flatMap encE) ∧ ∀ r ∈ ws, ∀ x, Sp11.memBlk m r.s x → x ≠ s ∧ ∀ o s', ea ≠ some ⟨x, o, s'⟩
  gm : ∃ k, m.get mp = some (.map (ws.map WR.kv) k)
  ents : EntO m n0 n rows
  many : rows.length ≤ 32
  short : ∀ r ∈ rows, 0 < r.xs.length ∧ r.xs.length ≤ 128
  asc : AscE rows
  whl : ∀ r ∈ ws, Sp11.Whl m n r.w r.s r.b r.M r.B ∧ r.B.length = 64
  node : ∀ i (h : i < ws.length), ws[i].node = i
  lo : n0 ≤ f ∧ n0 ≤ s ∧ n0 ≤ mp
  hi : f < n ∧ s < n ∧ mp < n
  wlo : ∀ r ∈ ws, n0 ≤ r.w ∧ n0 ≤ r.s ∧ n0 ≤ r.b ∧ ∀ x, Sp11.memBlk m r.s x → n0 ≤ x
  sep : ∀ i j (h : i < ws.length) (h' : j < ws.length), i ≠ j → ws[i].s ≠ ws[j].s ∧ ws[i].b ≠ ws[j].b ∧ ¬ Sp11.memBlk m ws[i].s ws[j].b ∧ ¬ Sp11.memBlk m ws[i].s ws[j].s
  esep : ∀ r ∈ ws, ∀ q ∈ rows, ∀ o s', q.a ≠ some ⟨r.b, o, s'⟩
end
end Go.Proofs.Ytiomjekkmjinbaa

set_option maxRecDepth 100000
namespace Go.Proofs.Ytiomjekkmjinbaa
open Go Go.Ab Spf
section
variable {m m' m0 : Mem} {n n' n0 fb s mp : Nat} {N me : Int} {L : List Lk} {rows : List ERow} {ws : List WR}
theorem wb_lt (h : FibS m n0 n fb s mp N me L rows ws) {r : WR} (hr : r ∈ ws) : r.w < n ∧ r.s < n ∧ r.b < n := ⟨(h.whl r hr).1.lw, (h.whl r hr).1.ls, (h.whl r hr).1.cellb.1⟩
theorem FibS.le (h : FibS m n0 n fb s mp N me L rows ws) (k : Le m n m' n') : FibS m' n0 n' fb s mp N me L rows ws := by
  obtain ⟨h1, h2, h3⟩ := h.hi
  have hk := k.le
  obtain ⟨la, ea, g1, g2, g3, g4⟩ := h.gs
  refine ⟨(k.same _ h1).trans h.gf, ⟨la, ea, (k.same _ h2).trans g1, g2.le k, g3.le k, fun r hr x hx => g4 r hr x (hx.of (k.same _ (wb_lt h hr).2.1))⟩, by rw [k.same _ h3]; exact h.gm, h.ents.le k, h.many, h.short, h.asc, fun r hr => ⟨(h.whl r hr).1.le k, (h.whl r hr).2⟩, h.node, h.lo, by omega, fun r hr => ?_, fun i j hi hj hne => ?_, h.esep⟩
  · obtain ⟨a, b, c, d⟩ := h.wlo r hr
    exact ⟨a, b, c, fun x hx => d x (hx.of (k.same _ (wb_lt h hr).2.1))⟩
  · obtain ⟨a, b, c, d⟩ := h.sep i j hi hj hne
    exact ⟨a, b, fun hx => c (hx.of (k.same _ (wb_lt h (List.getElem_mem hi)).2.1)), fun hx => d (hx.of (k.same _ (wb_lt h (List.getElem_mem hi)).2.1))⟩
theorem valid_len0 (hv : validP N L L.length [0] = true) : L.length ≤ 128 ∧ 1 ≤ N ∧ N ≤ 32 := by
  unfold validP at hv
  simp only [Bool.and_eq_true, decide_eq_true_eq] at hv
  omega
theorem fnew_dist {la : Option Addr} {lc : Nat} (hL : Sl m n la lc (L.flatMap encL)) (hll : L.length ≤ 1000) : ∃ m1 m2 n2 a D, m1 = m.set n (.cells none tBool 1 (List.replicate L.length (Value.bool false))) ∧ DistR N L (List.replicate L.length false) 0 D ∧ Le m n m2 n2 ∧ (Fs m n → Fs m2 n2) ∧
    Exact Try.prog fSpfDist [vi N, .slice la L.length lc, .slice (some ⟨n, 0, none⟩) L.length L.length, vi 0] m1 (n + 1) (.slice a D.length D.length) m2 n2 := by
  generalize h1 : m.set n (.cells none tBool 1 (List.replicate L.length (Value.bool false))) = m1
  have hle : Le m n m1 (n + 1) := by rw [← h1]; exact Le.new
  have hU : Sl m1 (n + 1) (some ⟨n, 0, none⟩) L.length ((List.replicate L.length false).map Value.bool) := by
    have : Ow m1 n (n + 1) tBool 1 (some ⟨n, 0, none⟩) L.length L.length (List.replicate L.length (Value.bool false)) := by rw [← h1]; exact Ow.new (Nat.le_refl _) (by simp [-Bool.exists_bool])
    rw [List.map_replicate]; exact this.sl
  obtain ⟨m2, n2, a, D, hD, _, le2, fs2, run⟩ := dist_c (N := N) (f := 0) (ll := L.length) (ul := L.length) rfl (by simp [-Bool.exists_bool]) (hL.le hle) hU
  exact ⟨m1, m2, n2, a, D, rfl, hD, hle.trans le2, fun hf => fs2 (by rw [← h1]; exact hf.set), run⟩
theorem fnew_x {la : Option Addr} {lc : Nat} (hL : Sl m n la lc (L.flatMap encL)) (hll : L.length ≤ 1000) : ∃ m2 n2 D, DistR N L (List.replicate L.length false) 0 D ∧ Le m n m2 n2 ∧ (Fs m n → Fs m2 n2) ∧ ∀ Q : Value → Mem → Nat → Prop,
    (bif ((D.length : Nat) : Int) == 0 then Q (.tuple ⟨[.pointer none, vi 3]⟩) m2 n2 else bif decide (me < 0) then Q (.tuple ⟨[.pointer none, vi 2]⟩) m2 n2 else bif decide (me ≥ N) then Q (.tuple ⟨[.pointer none, vi 2]⟩) m2 n2 else
      Wc Try.prog fSlicesCloneLapiLinkapiLink [.slice la L.length lc] m2 n2 fun v7 m8 k9 => ∃ p10 k11 k12, v7 = .slice p10 k11 k12 ∧ Later (memLet (m8.set k9 (.map [] 0)) fun m13 => memLet (m13.set (k9 + 1) (.cells none tFibstate 5 [vi N, vi me, .slice p10 k11 k12, .slice none 0 0, .map (some k9)])) fun m14 =>
        memLet (m14.set (k9 + 1 + 1) (.cells none tFibFib 1 [.pointer (some ⟨k9 + 1, 0, none⟩)])) fun m15 => Q (.tuple ⟨[.pointer (some ⟨k9 + 1 + 1, 0, none⟩), vi 0]⟩) m15 (k9 + 1 + 1 + 1))) → Wc Try.prog fFibNew [vi N, .slice la L.length lc, vi me] m n Q := by
  obtain ⟨m1, m2, n2, a, D, h1, hD, le2, fs2, run⟩ := fnew_dist (N := N) hL hll
  refine ⟨m2, n2, D, hD, le2, fs2, fun Q hq => ?_⟩
  refine Wc_of mixed (cfg := xcfg) (fuel := 400) ?_
  rw [xFibNew]
  refine ⟨by omega, memLet.mk fun mm e => ?_⟩
  have hz : (List.replicate L.length [Value.bool false]).flatten = List.replicate L.length (Value.bool false) := by simp [-Bool.exists_bool]
  simp only [Int.toNat_natCast] at e ⊢
  rw [hz, ← h1] at e
  subst e
  exact run _ ⟨_, _, _, rfl, Later.mk hq⟩
theorem fnew_bad {la : Option Addr} {lc : Nat} (hL : Sl m n la lc (L.flatMap encL)) (hll : L.length ≤ 1000) (hv : validP N L L.length [0] = false) : ∃ m2 n2, Le m n m2 n2 ∧ (Fs m n → Fs m2 n2) ∧ Exact Try.prog fFibNew [vi N, .slice la L.length lc, vi me] m n (.tuple ⟨[.pointer none, vi 3]⟩) m2 n2 := by
  obtain ⟨m2, n2, D, hD, le2, fs2, run⟩ := fnew_x (N := N) (me := me) hL hll
  refine ⟨m2, n2, le2, fs2, fun Q hq => run Q ?_⟩
  have : D = [] := by unfold DistR at hD; rw [List.length_replicate, if_neg (by simp [-Bool.exists_bool, hv])] at hD; exact hD
  subst this
  exact condET rfl hq
theorem fnew_range {la : Option Addr} {lc : Nat} (hL : Sl m n la lc (L.flatMap encL)) (hv : validP N L L.length [0] = true) (hs : me < 0 ∨ N ≤ me) : ∃ m2 n2, Le m n m2 n2 ∧ (Fs m n → Fs m2 n2) ∧ Exact Try.prog fFibNew [vi N, .slice la L.length lc, vi me] m n (.tuple ⟨[.pointer none, vi 2]⟩) m2 n2 := by
  obtain ⟨hll, hN1, hN2⟩ := valid_len0 hv
  obtain ⟨m2, n2, D, hD, le2, fs2, run⟩ := fnew_x (N := N) (me := me) hL (by omega)
  refine ⟨m2, n2, le2, fs2, fun Q hq => run Q ?_⟩
  have hlen : D.length = N.toNat := by unfold DistR at hD; rw [List.length_replicate, if_pos hv] at hD; exact hD.len
  refine condEF (by omega) ?_
  by_cases h : me < 0
  · exact condDT h hq
  · exact condDF h (condDT (by omega) hq)
theorem fnew_c {la : Option Addr} {lc : Nat} (hL : Sl m n la lc (L.flatMap encL)) (hv : validP N L L.length [0] = true) (h0 : 0 ≤ me) (h1 : me < N) :
    ∃ m2 n2 f s mp, FibS m2 n n2 f s mp N me L [] [] ∧ Le m n m2 n2 ∧ (Fs m n → Fs m2 n2) ∧ Exact Try.prog fFibNew [vi N, .slice la L.length lc, vi me] m n (.tuple ⟨[pp f, vi 0]⟩) m2 n2 := by
  obtain ⟨hll, hN1, hN2⟩ := valid_len0 hv
  obtain ⟨m2, n2, D, hD, le2, fs2, run⟩ := fnew_x (N := N) (me := me) hL (by omega)
  have hlen : D.length = N.toNat := by unfold DistR at hD; rw [List.length_replicate, if_pos hv] at hD; exact hD.len
  obtain ⟨a3, m3, n3, ow3, le3, fs3, run3⟩ := clonel_c (hL.le le2) (by omega)
  generalize e4 : m3.set n3 (.map [] 0) = m4
  generalize e5 : m4.set (n3 + 1) (.cells none tFibstate 5 [vi N, vi me, .slice a3 L.length L.length, .slice none 0 0, .map (some n3)]) = m5
  generalize e6 : m5.set (n3 + 1 + 1) (.cells none tFibFib 1 [.pointer (some ⟨n3 + 1, 0, none⟩)]) = m6
  have hle : Le m3 n3 m6 (n3 + 1 + 1 + 1) := ⟨by omega, fun i hi => by rw [← e6, Tr.get_set, if_neg (by omega), ← e5, Tr.get_set, if_neg (by omega), ← e4, Tr.get_set, if_neg (by omega)]⟩
  have hn := le2.le
  have hn3 := le3.le
  have gs : m6.get (n3 + 1) = some (.cells none tFibstate 5 [vi N, vi me, .slice a3 L.length L.length, .slice none 0 0, .map (some n3)]) := by rw [← e6, Tr.get_set, if_neg (by omega), ← e5]; simp [-Bool.exists_bool, Tr.get_set]
  have gm : m6.get n3 = some (.map [] 0) := by rw [← e6, Tr.get_set, if_neg (by omega), ← e5, Tr.get_set, if_neg (by omega), ← e4]; simp [-Bool.exists_bool, Tr.get_set]
  refine ⟨m6, n3 + 1 + 1 + 1, n3 + 1 + 1, n3 + 1, n3, ⟨by rw [← e6]; simp [-Bool.exists_bool, Tr.get_set], ⟨a3, none, gs, (ow3.le hle).low hn, Ow.nil, (fun _ h => nomatch h)⟩, ⟨0, gm⟩, (fun _ h => nomatch h), by simp, (fun _ h => nomatch h), List.Pairwise.nil, (fun _ h => nomatch h), (fun _ h => nomatch h), by omega, by omega, (fun _ h => nomatch h), (fun _ _ h => nomatch h), (fun _ h => nomatch h)⟩, (le2.trans le3).trans hle, fun hf i hi => ?_, fun Q hq => run Q ?_⟩
  · rw [← e6, Tr.get_set, if_neg (by omega), ← e5, Tr.get_set, if_neg (by omega), ← e4, Tr.get_set, if_neg (by omega)]; exact fs3 (fs2 hf) i (by omega)
  · refine condEF (by omega) (condDF (by omega) (condDF (by omega) (run3 _ ⟨_, _, _, rfl, Later.mk (memLet.mk fun ma ea => memLet.mk fun mb eb => memLet.mk fun mc ec => ?_)⟩)))
    have ea : ma = m4 := ea.trans e4
    subst ea
    have eb : mb = m5 := eb.trans e5
    subst eb
    have ec : mc = m6 := ec.trans e6
    subst ec
    exact hq
theorem fvalid_c (h : FibS m n0 n fb s mp N me L rows ws) {Q : Value → Mem → Nat → Prop} {k : Nat} (hq : Q (.bool true) m k) : Wc Try.prog fFibFibvalid [pp fb] m k Q := by
  refine Wc_of mixed (cfg := xcfg) (fuel := 400) ?_
  rw [xFibFibvalid]
  exact ⟨isC_of h.gf, _, rd_of h.gf rfl, hq⟩
end
end Go.Proofs.Ytiomjekkmjinbaa

set_option maxRecDepth 100000
namespace Go.Proofs.Ytiomjekkmjinbaa
open Go Go.Ab Spf
section
variable {m m' m0 : Mem} {n n' n0 fb s mp : Nat} {N me : Int} {L : List Lk} {rows : List ERow} {ws : List WR}
theorem ow_keep2 {T sz l c Ts Tb zs zb w b : Nat} {a : Option Addr} {cs xs ys : List Value} (h : Ow m n0 n T sz a l c cs) (hs : m.get w = some (.cells none Ts zs xs)) (hb : m.get b = some (.cells none Tb zb ys)) (h1 : T ≠ Ts) (h2 : ∀ o s', a ≠ some ⟨b, o, s'⟩)
    (k : n ≤ n') (same : ∀ i, i < n → i ≠ w → i ≠ b → m'.get i = m.get i) : Ow m' n0 n' T sz a l c cs := by
  refine h.same k fun q o s' e => same q (h.bnd e).2 ?_ (by rintro rfl; exact h2 _ _ e)
  rintro rfl
  obtain ⟨_, _, h3⟩ := h
  rcases h3 with ⟨h3, _⟩ | ⟨b1, o1, s1, full, q1, q2, q3, q4, _⟩
  · rw [h3] at e; cases e
  · rw [q1] at e; cases e
    rw [hs] at q4
    simp only [Option.some.injEq, AObj.cells.injEq] at q4
    exact h1 q4.2.1.symm
theorem ow_notT {T sz l c Tb zb b : Nat} {a : Option Addr} {cs ys : List Value} (h : Ow m n0 n T sz a l c cs) (hb : m.get b = some (.cells none Tb zb ys)) (h1 : T ≠ Tb) : ∀ o s', a ≠ some ⟨b, o, s'⟩ := by
  intro o s' e
  obtain ⟨_, _, h3⟩ := h
  rcases h3 with ⟨h3, _⟩ | ⟨b1, o1, s1, full, q1, q2, q3, q4, _⟩
  · rw [h3] at e; cases e
  · rw [q1] at e; cases e
    rw [hb] at q4
    simp only [Option.some.injEq, AObj.cells.injEq] at q4
    exact h1 q4.2.1.symm
theorem whl_gets {w s b : Nat} {M B : List Int} (h : Sp11.Whl m n w s b M B) : (∃ xs, m.get s = some (.cells none tSpreadstate 2 xs)) ∧ ∃ ys, m.get b = some (.cells none tInt 1 ys) := by
  obtain ⟨ma, mc, o, sp, h1, h2⟩ := h.st
  exact ⟨⟨_, h1.get⟩, h.cellb.2⟩
theorem setF_len {X M B : List Int} : (Sp.setF X M B).2.2.length = B.length := by
  unfold Sp.setF
  split
  · rfl
  · split
    · rfl
    · exact Sp.setB_length X B
theorem whl_frame {w s b w' s' b' : Nat} {M B M' B' : List Int} (h : Sp11.Whl m n w s b M B) (h' : Sp11.Whl m n w' s' b' M' B') (k : n ≤ n') (same : ∀ i, i < n → i ≠ s' → i ≠ b' → m'.get i = m.get i) (h1 : s ≠ s') (h2 : b ≠ b') (h3 : ¬ Sp11.memBlk m s b') (h4 : ¬ Sp11.memBlk m s s') : Sp11.Whl m' n' w s b M B := by
  obtain ⟨⟨xs, gs'⟩, ys, gb'⟩ := whl_gets h'
  obtain ⟨ma, mc, o, sp, st, ow⟩ := h.st
  have hb' := h'.cellb.1
  have hs' := h'.ls
  have ws : w ≠ s' := ne_get h.get gs' (by decide)
  have wb : w ≠ b' := ne_get h.get gb' (by decide)
  have sb : s ≠ b' := ne_get st.get gb' (by decide)
  have bs : b ≠ s' := by
    obtain ⟨_, full, g⟩ := h.cellb
    exact ne_get g gs' (by decide)
  have hsl := same s h.ls h1 sb
  have ow' := ow.same k (m' := m') fun q o' s2 e => by cases e; exact same b h.cellb.1 bs h2
  have mem' : Sl m' n' ma mc (M.map vi) := st.mem.same k fun q o' s2 e => by
    refine same q (st.mem.lt e) (fun e2 => ?_) (fun e2 => ?_)
    · subst e2; subst e
      exact h4 ⟨_, _, _, _, _, st.get⟩
    · subst e2; subst e
      exact h3 ⟨_, _, _, _, _, st.get⟩
  exact ⟨(same w h.lw ws wb).trans h.get, by have := h.lw; omega, by have := h.ls; omega, h.pos, h.big, ma, mc, o, sp, ⟨hsl.trans st.get, mem', ow'.sl, st.lm, st.lb⟩, ow'⟩
/-- A wheel with other members. -/
def WR.put (r : WR) (X : List Int) : WR := { r with M := (Sp.setF X r.M r.B).2.1, B := (Sp.setF X r.M r.B).2.2 }
theorem wset_x (h : FibS m n0 n fb s mp N me L rows ws) (hn : n0 ≤ n) (hf : Fs m n) {j : Nat} (hj : j < ws.length) {X : List Int} {xa : Option Addr} {xc : Nat} (hx : Sl m n xa xc (X.map vi)) (hlX : X.length ≤ 1000) (hap : ∀ o s', xa ≠ some ⟨ws[j].b, o, s'⟩) (haps : ∀ o s', xa ≠ some ⟨ws[j].s, o, s'⟩) :
    ∃ m' n', FibS m' n0 n' fb s mp N me L rows (ws.set j (ws[j].put X)) ∧ n ≤ n' ∧ (∀ i, i < n → i ≠ ws[j].s → i ≠ ws[j].b → m'.get i = m.get i) ∧ Fs m' n' ∧ Exact Try.prog fSpreadWheelSet [pp ws[j].w, .slice xa X.length xc] m n (vi (Sp.setF X ws[j].M ws[j].B).1) m' n' := by
  have hr : ws[j] ∈ ws := List.getElem_mem hj
  obtain ⟨hw, hB⟩ := h.whl _ hr
  obtain ⟨m', n', sp, run⟩ := Sp11.Set_c hw hf hx hlX hap haps
  obtain ⟨⟨xs, gS⟩, ys, gB⟩ := whl_gets hw
  obtain ⟨l1, l2, l3⟩ := h.hi
  obtain ⟨la, ea, g1, g2, g3, g4⟩ := h.gs
  obtain ⟨km, gm⟩ := h.gm
  have same := sp.same
  have le := sp.le
  have mps : mp ≠ ws[j].s := by rintro rfl; rw [gm] at gS; cases gS
  have mpb : mp ≠ ws[j].b := by rintro rfl; rw [gm] at gB; cases gB
  refine ⟨m', n', ⟨(same fb l1 (ne_get h.gf gS (by decide)) (ne_get h.gf gB (by decide))).trans h.gf, ⟨la, ea, (same s l2 (ne_get g1 gS (by decide)) (ne_get g1 gB (by decide))).trans g1, ow_keep2 g2 gS gB (by decide) (ow_notT g2 gB (by decide)) le same, ow_keep2 g3 gS gB (by decide) (ow_notT g3 gB (by decide)) le same, ?_⟩, ⟨km, ?_⟩, ?_, h.many, h.short, h.asc, ?_, ?_, h.lo, by omega, ?_, ?_, ?_⟩, le, same, sp.fs, run⟩
  · intro r hr' x hx
    obtain ⟨i, hi, rfl⟩ := List.getElem_of_mem hr'
    have hi' : i < ws.length := by simpa [-Bool.exists_bool] using hi
    have hxi : Sp11.memBlk m' ws[i].s x := by
      rw [List.getElem_set] at hx
      split at hx
      · rename_i e; subst e; exact hx
      · exact hx
    by_cases hij : i = j
    · subst hij
      rcases Nat.lt_or_ge x n with hlt | hge
      · exact g4 _ hr x (sp.old x hxi hlt)
      · exact ⟨by omega, fun o s' e => by have := (g3.bnd e).2; omega⟩
    · obtain ⟨a2, b2, c2, d2⟩ := h.sep i j hi' hj hij
      obtain ⟨⟨xs', gS'⟩, _⟩ := whl_gets (h.whl _ (List.getElem_mem hi')).1
      exact g4 _ (List.getElem_mem hi') x (hxi.of (same _ (h.whl _ (List.getElem_mem hi')).1.ls a2 (ne_get gS' gB (by decide))))
  · rw [same mp l3 mps mpb, gm]
    congr 2
    refine List.ext_getElem (by simp [-Bool.exists_bool]) fun i h1 h2 => ?_
    simp only [List.getElem_map, List.getElem_set]
    split
    · rename_i e; subst e; rfl
    · rfl
  · exact fun r hr' => ow_keep2 (h.ents r hr') gS gB (by decide) (fun o s' e => h.esep _ hr r hr' o s' e) le same
  · intro r hr'
    obtain ⟨i, hi, rfl⟩ := List.getElem_of_mem hr'
    have hi' : i < ws.length := by simpa [-Bool.exists_bool] using hi
    rw [List.getElem_set]
    split
    · exact ⟨sp.whl, by rw [← hB]; exact setF_len⟩
    · rename_i hne
      obtain ⟨a, b, c, d⟩ := h.sep i j hi' hj (fun e => hne e.symm)
      exact ⟨whl_frame (h.whl _ (List.getElem_mem hi')).1 hw le same a b c d, (h.whl _ (List.getElem_mem hi')).2⟩
  · intro i hi
    have hi' : i < ws.length := by simpa [-Bool.exists_bool] using hi
    rw [List.getElem_set]
    split
    · rename_i e; subst e; exact h.node j hj
    · exact h.node i hi'
  · intro r hr'
    obtain ⟨i, hi, rfl⟩ := List.getElem_of_mem hr'
    have hi' : i < ws.length := by simpa [-Bool.exists_bool] using hi
    rw [List.getElem_set]
    split
    · obtain ⟨a, b, c, d⟩ := h.wlo _ hr
      exact ⟨a, b, c, fun x hx => by
        rcases Nat.lt_or_ge x n with hlt | hge
        · exact d x (sp.old x hx hlt)
        · omega⟩
    · rename_i hne
      obtain ⟨a, b, c, d⟩ := h.wlo _ (List.getElem_mem hi')
      obtain ⟨a2, b2, c2, d2⟩ := h.sep i j hi' hj (fun e => hne e.symm)
      obtain ⟨⟨xs', gS'⟩, _⟩ := whl_gets (h.whl _ (List.getElem_mem hi')).1
      exact ⟨a, b, c, fun x hx => d x (hx.of (same _ (h.whl _ (List.getElem_mem hi')).1.ls a2 (ne_get gS' gB (by decide))))⟩
  · intro i k hi hk hne
    have hi' : i < ws.length := by simpa [-Bool.exists_bool] using hi
    have hk' : k < ws.length := by simpa [-Bool.exists_bool] using hk
    have e1 : ∀ q (hq : q < ws.length) (hq2 : q < (ws.set j (ws[j].put X)).length), (ws.set j (ws[j].put X))[q].s = ws[q].s ∧ (ws.set j (ws[j].put X))[q].b = ws[q].b := fun q hq hq2 => by
      rw [List.getElem_set]
      split
      · rename_i e; subst e; exact ⟨rfl, rfl⟩
      · exact ⟨rfl, rfl⟩
    rw [(e1 i hi' hi).1, (e1 i hi' hi).2, (e1 k hk' hk).1, (e1 k hk' hk).2]
    obtain ⟨a, b, c, d⟩ := h.sep i k hi' hk' hne
    have hkb := wb_lt h (List.getElem_mem hk')
    refine ⟨a, b, fun hx => c ?_, fun hx => d ?_⟩
    all_goals
      by_cases hij : i = j
      · subst hij; exact sp.old _ hx (by omega)
      · obtain ⟨a2, b2, c2, d2⟩ := h.sep i j hi' hj hij
        obtain ⟨⟨xs', gS'⟩, _⟩ := whl_gets (h.whl _ (List.getElem_mem hi')).1
        exact hx.of (same _ (h.whl _ (List.getElem_mem hi')).1.ls a2 (ne_get gS' gB (by decide)))
  · intro r hr' q hq o s'
    obtain ⟨i, hi, rfl⟩ := List.getElem_of_mem hr'
    have hi' : i < ws.length := by simpa [-Bool.exists_bool] using hi
    rw [List.getElem_set]
    split
    · exact h.esep _ hr q hq o s'
    · exact h.esep _ (List.getElem_mem hi') q hq o s'
/-- The wheel of a node that has one. -/
theorem wheel_old (h : FibS m n0 n fb s mp N me L rows ws) {j k : Nat} (hj : j < ws.length) : Exact Try.prog fFibstatewheel [pp s, vi (j : Int)] m k (pp ws[j].w) m k := by
  obtain ⟨la, ea, g1, g2, g3, g4⟩ := h.gs
  obtain ⟨km, gm⟩ := h.gm
  intro Q hq
  refine Wc_of mixed (cfg := xcfg) (fuel := 400) ?_
  rw [xFibstatewheel]
  refine ⟨isC_of g1, _, rd_of g1 rfl, ws.map WR.kv, by simp [-Bool.exists_bool, mapOf, gm], ws_keys ws, ?_⟩
  have := ws_find (ws := ws) (k := 0) (j := j) (fun i hi => by rw [h.node i hi]; omega)
  rw [Nat.zero_add] at this
  rw [this, List.getElem?_eq_getElem hj]
  exact ⟨_, rfl, hq⟩
/-- The wheel of the next node. -/
theorem wheel_new (h : FibS m n0 n fb s mp N me L rows ws) (hn : n0 ≤ n) : ∃ m' n' r, FibS m' n0 n' fb s mp N me L rows (ws ++ [r]) ∧ r.M = [] ∧ r.B = List.replicate 64 (-1) ∧ n ≤ n' ∧ n ≤ r.s ∧ n ≤ r.b ∧ (∀ i, i < n → i ≠ mp → m'.get i = m.get i) ∧ (Fs m n → Fs m' n') ∧
    Exact Try.prog fFibstatewheel [pp s, vi (ws.length : Int)] m n (pp r.w) m' n' := by
  obtain ⟨l1, l2, l3⟩ := h.hi
  obtain ⟨m1, n1, w, st, b, hw, le1, lw, ls, lb, hno, fs1, run1⟩ := wheelNew_x (m := m) (n := n) (k := 64) (by decide) (by decide)
  have h1 := h.le le1
  obtain ⟨la, ea, g1, g2, g3, g4⟩ := h1.gs
  obtain ⟨la0, ea0, g10, _⟩ := h.gs
  obtain ⟨km, gm⟩ := h1.gm
  obtain ⟨km0, gm0⟩ := h.gm
  have hle := le1.le
  generalize e2 : m1.set mp (.map (ws.map WR.kv ++ [(vi (ws.length : Int), pp w)]) (km + 1)) = m2
  have k2 : ∀ i, i ≠ mp → m2.get i = m1.get i := fun i hi => by rw [← e2, Tr.get_set, if_neg (fun e => hi e.symm)]
  have cel : ∀ {i T sz : Nat} {cs : List Value}, m1.get i = some (.cells none T sz cs) → i ≠ mp := fun g e => by subst e; rw [gm] at g; cases g
  have owk : ∀ {T sz l c k : Nat} {a : Option Addr} {cs : List Value}, Ow m1 k n1 T sz a l c cs → Ow m2 k n1 T sz a l c cs := fun {T sz l c k a cs} ho => ho.same (Nat.le_refl _) fun b o s' e => by
    obtain ⟨_, _, h3⟩ := ho
    rcases h3 with ⟨h3, _⟩ | ⟨b1, o1, s1, full, q1, q2, q3, q4, _⟩
    · rw [h3] at e; cases e
    · rw [q1] at e; cases e
      exact k2 _ (cel q4)
  have whk : ∀ {w s b : Nat} {M B : List Int}, Sp11.Whl m1 n1 w s b M B → (∀ x, Sp11.memBlk m1 s x → x ≠ mp) → Sp11.Whl m2 n1 w s b M B := fun {w s b M B} hw' hx => by
    obtain ⟨ma, mc, o, sp, st', ow'⟩ := hw'.st
    refine ⟨(k2 w (cel hw'.get)).trans hw'.get, hw'.lw, hw'.ls, hw'.pos, hw'.big, ma, mc, o, sp, ⟨(k2 s (cel st'.get)).trans st'.get, st'.mem.same (Nat.le_refl _) fun q o' s2 e => k2 q (by subst e; exact hx q ⟨_, _, _, _, _, st'.get⟩), (owk ow').sl, st'.lm, st'.lb⟩, owk ow'⟩
  have mem_lt : ∀ r ∈ ws, ∀ x, Sp11.memBlk m r.s x → x < n ∧ x ≠ mp := fun r hr x ⟨o, s', l, c, q, hx⟩ => by
    obtain ⟨ma, mc, o2, sp, st', ow'⟩ := (h.whl r hr).1.st
    rw [st'.get] at hx
    simp only [Option.some.injEq, AObj.cells.injEq, List.cons.injEq, Value.slice.injEq, true_and] at hx
    refine ⟨st'.mem.lt hx.1.1, ?_⟩
    rintro rfl
    rcases st'.mem with ⟨g, _⟩ | ⟨b2, o2, s2, full, g1, g2, g3, _⟩
    · rw [g] at hx; simp [-Bool.exists_bool] at hx
    · rw [g1] at hx; simp only [Option.some.injEq, Addr.mk.injEq] at hx
      have := isC_cellsOf g3
      rw [hx.1.1.1] at this
      simp [-Bool.exists_bool, isC, gm0] at this
  have mem1 : ∀ r ∈ ws, ∀ x, Sp11.memBlk m2 r.s x → Sp11.memBlk m r.s x := fun r hr x hx => by
    have hs := (wb_lt h hr).2.1
    obtain ⟨⟨xs, gS⟩, _⟩ := whl_gets (h.whl r hr).1
    have gS1 := (le1.same _ hs).trans gS
    exact hx.of ((k2 _ (cel gS1)).trans (le1.same _ hs))
  obtain ⟨⟨xsn, gSn⟩, ysn, gBn⟩ := whl_gets hw
  have memn : ∀ x, ¬ Sp11.memBlk m2 st x := fun x hx => hno x (hx.of (k2 _ (cel gSn)))
  have hwlt := hw.lw
  have hslt := hw.ls
  have hblt := hw.cellb.1
  refine ⟨m2, n1, ⟨ws.length, w, st, b, [], List.replicate 64 (-1)⟩, ⟨(k2 _ (cel h1.gf)).trans h1.gf, ⟨la, ea, (k2 _ (cel g1)).trans g1, owk g2, owk g3, ?_⟩, ⟨km + 1, by rw [← e2]; simp [-Bool.exists_bool, Tr.get_set, WR.kv]⟩, fun r hr => owk (h1.ents r hr), h.many, h.short, h.asc, ?_, ?_, h.lo, h1.hi, ?_, ?_, ?_⟩, rfl, rfl, hle, ls, lb, fun i hi hne => (k2 i hne).trans (le1.same i hi), fun hf i hi => by rw [k2 i (by omega)]; exact fs1 hf i hi, fun Q hq => ?_⟩
  · intro r hr x hx
    rcases List.mem_append.1 hr with hr | hr
    · obtain ⟨⟨xs, gS⟩, _⟩ := whl_gets (h1.whl r hr).1
      exact g4 r hr x (hx.of (k2 _ (cel gS)))
    · rw [List.mem_singleton.1 hr] at hx; exact (memn x hx).elim
  · intro r hr
    rcases List.mem_append.1 hr with hr | hr
    · exact ⟨whk (h1.whl r hr).1 fun x hx => (mem_lt r hr x (hx.of ((le1.same _ (wb_lt h hr).2.1).symm ▸ rfl))).2, (h1.whl r hr).2⟩
    · rw [List.mem_singleton.1 hr]
      exact ⟨whk hw fun x hx => (hno x hx).elim, by simp⟩
  · intro i hi
    rw [List.getElem_append]
    split
    · exact h.node i _
    · simp [-Bool.exists_bool] at hi ⊢; omega
  · intro r hr
    rcases List.mem_append.1 hr with hr | hr
    · obtain ⟨a, b, c, d⟩ := h.wlo r hr
      exact ⟨a, b, c, fun x hx => d x (mem1 r hr x hx)⟩
    · rw [List.mem_singleton.1 hr]
      exact ⟨by simp only; omega, by simp only; omega, by simp only; omega, fun x hx => (memn x hx).elim⟩
  · intro i j hi hj hne
    simp only [List.length_append, List.length_singleton] at hi hj
    rw [List.getElem_append, List.getElem_append]
    split
    · rename_i hi'
      have bi := wb_lt h (List.getElem_mem hi')
      split
      · rename_i hj'
        obtain ⟨a, b, c, d⟩ := h.sep i j hi' hj' hne
        exact ⟨a, b, fun hx => c (mem1 _ (List.getElem_mem hi') _ hx), fun hx => d (mem1 _ (List.getElem_mem hi') _ hx)⟩
      · simp only [List.getElem_singleton]
        exact ⟨by omega, by omega, fun hx => by have := (mem_lt _ (List.getElem_mem hi') _ (mem1 _ (List.getElem_mem hi') _ hx)).1; omega, fun hx => by have := (mem_lt _ (List.getElem_mem hi') _ (mem1 _ (List.getElem_mem hi') _ hx)).1; omega⟩
    · split
      · rename_i hj'
        have bj := wb_lt h (List.getElem_mem hj')
        simp only [List.getElem_singleton]
        exact ⟨by omega, by omega, fun hx => (memn _ hx).elim, fun hx => (memn _ hx).elim⟩
      · omega
  · intro r hr q hq o s' e
    rcases List.mem_append.1 hr with hr | hr
    · exact h.esep r hr q hq o s' e
    · rw [List.mem_singleton.1 hr] at e
      have := ((h.ents q hq).bnd e).2
      simp only at this; omega
  · refine Wc_of mixed (cfg := xcfg) (fuel := 400) ?_
    rw [xFibstatewheel]
    refine ⟨isC_of g10, _, rd_of g10 rfl, ws.map WR.kv, by simp [-Bool.exists_bool, mapOf, gm0], ws_keys ws, ?_⟩
    have := ws_find (ws := ws) (k := 0) (j := ws.length) (fun i hi => by rw [h.node i hi]; omega)
    rw [Nat.zero_add] at this
    rw [this, List.getElem?_eq_none (Nat.le_refl _)]
    refine run1 _ ⟨_, _, rfl, Later.mk ⟨isC_of g1, _, rd_of g1 rfl, _, _, gm, ws_keys ws, ?_⟩⟩
    rw [ws_any h.node]
    refine condF rfl (memLet.mk fun mm e => ?_)
    have e : mm = m2 := e.trans e2
    subst e
    exact hq
end
end Go.Proofs.Ytiomjekkmjinbaa

set_option maxRecDepth 100000
namespace Go.Proofs.Ytiomjekkmjinbaa
open Go Go.Ab Spf
section
variable {m m' m0 : Mem} {n n' n0 fb s mp k : Nat} {N me y : Int} {L : List Lk} {rows : List ERow} {ws : List WR}
theorem find_x (h : FibS m n0 n fb s mp N me L rows ws) (y : Int) (hk : n ≤ k) : ∃ x b, FindR rows y x b ∧ Exact Try.prog fFibstatefind [pp s, .int .u32 y] m k (.tuple ⟨[vi x, .bool b]⟩) m k := by
  obtain ⟨la, ea, g1, g2, g3, g4⟩ := h.gs
  have hm := h.many
  obtain ⟨x, b, hf, run⟩ := bin_c (m := m) (n := k) (y := y) (by omega) h.asc (g3.sl.same hk fun _ _ _ _ => rfl)
  refine ⟨x, b, hf, fun Q hq => ?_⟩
  refine Wc_of mixed (cfg := xcfg) (fuel := 400) ?_
  rw [xFibstatefind]
  exact ⟨isC_of g1, _, _, _, rd_of g1 rfl, run _ ⟨_, _, rfl, Later.mk hq⟩⟩
/-- What a table holds for an address. -/
def lookP (rows : List ERow) (y : Int) : List Int := match rows.find? (fun r => decide (r.dst = y)) with
  | some r => r.xs
  | none => []
theorem lookP_at (ha : AscE rows) {j : Nat} (hj : j < rows.length) (he : rows[j].dst = y) : lookP rows y = rows[j].xs := by
  unfold lookP
  have : rows.find? (fun r => decide (r.dst = y)) = some rows[j] := by
    rw [List.find?_eq_some_iff_getElem]
    refine ⟨by simp [-Bool.exists_bool, he], j, hj, rfl, fun i hi => ?_⟩
    have := ha.at hi hj
    simp only [Bool.not_eq_true', decide_eq_false_iff_not]
    omega
  rw [this]
theorem lookP_none (h : ∀ r ∈ rows, r.dst ≠ y) : lookP rows y = [] := by
  unfold lookP
  have : rows.find? (fun r => decide (r.dst = y)) = none := by
    rw [List.find?_eq_none]
    intro r hr; simpa [-Bool.exists_bool] using h r hr
  rw [this]
theorem lookP_len (h : FibS m n0 n fb s mp N me L rows ws) : (lookP rows y).length ≤ 128 := by
  unfold lookP
  split
  · rename_i r hr; exact (h.short r (List.mem_of_find?_eq_some hr)).2
  · simp [-Bool.exists_bool]
theorem lookup_x (h : FibS m n0 n fb s mp N me L rows ws) (y : Int) : ∃ a m' n', Ow m' n n' tInt 1 a (lookP rows y).length (lookP rows y).length ((lookP rows y).map vi) ∧ (lookP rows y = [] → a = none) ∧ Le m n m' n' ∧ (Fs m n → Fs m' n') ∧ Exact Try.prog fFibFibLookup [pp fb, .int .u32 y] m n (.slice a (lookP rows y).length (lookP rows y).length) m' n' := by
  obtain ⟨x, b, hf, run⟩ := find_x h y (Nat.le_refl n)
  obtain ⟨la, ea, g1, g2, g3, g4⟩ := h.gs
  cases b with
  | false =>
    unfold FindR at hf
    rw [if_neg (by simp [-Bool.exists_bool])] at hf
    rw [lookP_none hf]
    refine ⟨none, m, n, Ow.nil, fun _ => rfl, Le.refl, id, fun Q hq => ?_⟩
    refine Wc_of mixed (cfg := xcfg) (fuel := 400) ?_
    rw [xFibFibLookup]
    exact fvalid_c h ⟨_, rfl, Later.mk (condF rfl ⟨isC_of h.gf, _, rd_of h.gf rfl, run _ ⟨_, _, rfl, Later.mk (condT rfl hq)⟩⟩)⟩
  | true =>
    unfold FindR at hf
    rw [if_pos rfl] at hf
    obtain ⟨j, hj, rfl, he⟩ := hf
    rw [lookP_at h.asc hj he]
    have hr : rows[j] ∈ rows := List.getElem_mem hj
    have hs := h.short _ hr
    obtain ⟨a, m', n', ow, le, fs, run2⟩ := Sp11.clone_c (h.ents _ hr).sl (by omega)
    refine ⟨a, m', n', ow, fun e => by rw [e] at hs; simp [-Bool.exists_bool] at hs, le, fs, fun Q hq => ?_⟩
    refine Wc_of mixed (cfg := xcfg) (fuel := 400) ?_
    rw [xFibFibLookup]
    refine fvalid_c h ⟨_, rfl, Later.mk (condF rfl ⟨isC_of h.gf, _, rd_of h.gf rfl, run _ ⟨_, _, rfl, Later.mk (condF rfl ⟨isC_of h.gf, _, rd_of h.gf rfl, isC_of g1, _, _, _, rd_of g1 rfl, ?_⟩)⟩⟩)⟩
    exact g3.sl.ldv encE_len hj (by omega) fun b o s' i1 r1 _ => ⟨i1, _, _, _, r1 1 _ rfl, run2 _ ⟨_, _, _, rfl, Later.mk hq⟩⟩
/-- The same table with other entries. -/
theorem FibS.put (h : FibS m n0 n fb s mp N me L rows ws) {rows' : List ERow} {ea' : Option Addr} {la ea : Option Addr}
    (g1 : m.get s = some (.cells none tFibstate 5 [vi N, vi me, .slice la L.length L.length, .slice ea rows.length rows.length, .map (some mp)])) (g2 : Ow m n0 n tApiLink 3 la L.length L.length (L.flatMap encL)) (g3 : Ow m n0 n tFibentry 2 ea rows.length rows.length (rows.flatMap encE)) (g4 : ∀ r ∈ ws, ∀ x, Sp11.memBlk m r.s x → x ≠ s ∧ ∀ o s', ea ≠ some ⟨x, o, s'⟩)
    (k1 : m'.get s = some (.cells none tFibstate 5 [vi N, vi me, .slice la L.length L.length, .slice ea' rows'.length rows'.length, .map (some mp)]))
    (k2 : Ow m' n0 n' tFibentry 2 ea' rows'.length rows'.length (rows'.flatMap encE)) (k3 : EntO m' n0 n' rows') (k4 : rows'.length ≤ 32) (k5 : ∀ r ∈ rows', 0 < r.xs.length ∧ r.xs.length ≤ 128) (k6 : AscE rows') (k7 : ∀ r ∈ ws, ∀ q ∈ rows', ∀ o s', q.a ≠ some ⟨r.b, o, s'⟩)
    (k8 : ∀ b o s', ea' = some ⟨b, o, s'⟩ → (∃ o s', ea = some ⟨b, o, s'⟩) ∨ n ≤ b) (le : n ≤ n') (same : ∀ i, i < n → i ≠ s → (∀ o s', ea ≠ some ⟨i, o, s'⟩) → m'.get i = m.get i) : FibS m' n0 n' fb s mp N me L rows' ws := by
  obtain ⟨l1, l2, l3⟩ := h.hi
  obtain ⟨km, gm⟩ := h.gm
  have cel : ∀ {i T sz : Nat} {cs : List Value}, i < n → m.get i = some (.cells none T sz cs) → T ≠ tFibstate → T ≠ tFibentry → m'.get i = m.get i := fun {i T sz cs} hi g h1 h2 =>
    same i hi (ne_get g g1 h1) (ow_notT g3 g (fun e => h2 e.symm))
  have owk : ∀ {T sz l c k : Nat} {a : Option Addr} {cs : List Value}, T ≠ tFibstate → T ≠ tFibentry → Ow m k n T sz a l c cs → Ow m' k n' T sz a l c cs := fun {T sz l c k a cs} h1 h2 ho => ho.same le fun b o s' e => by
    have hb := (ho.bnd e).2
    obtain ⟨_, _, h3⟩ := ho
    rcases h3 with ⟨h3, _⟩ | ⟨b1, o1, s1, full, w1, w2, w3, w4, _⟩
    · rw [h3] at e; cases e
    · rw [w1] at e; cases e
      exact cel hb w4 h1 h2
  have mpk : m'.get mp = m.get mp := same mp l3 (by rintro rfl; rw [gm] at g1; cases g1) fun o s' e => by
    obtain ⟨_, _, h3⟩ := g3
    rcases h3 with ⟨h3, _⟩ | ⟨b1, o1, s1, full, w1, w2, w3, w4, _⟩
    · rw [h3] at e; cases e
    · rw [w1] at e; cases e
      rw [gm] at w4; cases w4
  have sk : ∀ r ∈ ws, m'.get r.s = m.get r.s := fun r hr => by
    obtain ⟨⟨xs, gS⟩, _⟩ := whl_gets (h.whl r hr).1
    exact cel (wb_lt h hr).2.1 gS (by decide) (by decide)
  have mem_lt : ∀ r ∈ ws, ∀ x, Sp11.memBlk m r.s x → x < n := fun r hr x ⟨o, s', l, c, q, hx⟩ => by
    obtain ⟨ma, mc, o2, sp, st', ow'⟩ := (h.whl r hr).1.st
    rw [st'.get] at hx
    simp only [Option.some.injEq, AObj.cells.injEq, List.cons.injEq, Value.slice.injEq, true_and] at hx
    exact st'.mem.lt hx.1.1
  refine ⟨(cel l1 h.gf (by decide) (by decide)).trans h.gf, ⟨la, ea', k1, owk (by decide) (by decide) g2, k2, fun r hr x hx => ?_⟩, ⟨km, mpk.trans gm⟩, k3, k4, k5, k6, fun r hr => ⟨?_, (h.whl r hr).2⟩, h.node, h.lo, by omega, fun r hr => ?_, fun i j hi hj hne => ?_, k7⟩
  · have hx' := hx.of (sk r hr)
    obtain ⟨a, b⟩ := g4 r hr x hx'
    refine ⟨a, fun o s' e => ?_⟩
    rcases k8 _ _ _ e with ⟨o2, s2, e2⟩ | h2
    · exact b _ _ e2
    · have := mem_lt r hr x hx'; omega
  · have hw := (h.whl r hr).1
    obtain ⟨ma, mc, o, sp, st', ow'⟩ := hw.st
    have ow2 := owk (by decide) (by decide) ow'
    refine ⟨(cel hw.lw hw.get (by decide) (by decide)).trans hw.get, by have := hw.lw; omega, by have := hw.ls; omega, hw.pos, hw.big, ma, mc, o, sp, ⟨(sk r hr).trans st'.get, st'.mem.same le fun q o' s2 e => ?_, ow2.sl, st'.lm, st'.lb⟩, ow2⟩
    subst e
    obtain ⟨a, b⟩ := g4 r hr q ⟨_, _, _, _, _, st'.get⟩
    exact same q (st'.mem.lt rfl) a b
  · obtain ⟨a, b, c, d⟩ := h.wlo r hr
    exact ⟨a, b, c, fun x hx => d x (hx.of (sk r hr))⟩
  · obtain ⟨a, b, c, d⟩ := h.sep i j hi hj hne
    exact ⟨a, b, fun hx => c (hx.of (sk _ (List.getElem_mem hi))), fun hx => d (hx.of (sk _ (List.getElem_mem hi)))⟩
end
end Go.Proofs.Ytiomjekkmjinbaa

set_option maxRecDepth 100000
namespace Go.Proofs.Ytiomjekkmjinbaa
open Go Go.Ab Spf
section
variable {m m' m0 : Mem} {n n' n0 fb s mp k : Nat} {N me y : Int} {L : List Lk} {rows : List ERow} {ws : List WR}
theorem wheel_any (h : FibS m n0 n fb s mp N me L rows ws) (hn : n0 ≤ n) {j : Nat} (hj : j ≤ ws.length) : ∃ m' n' ws', FibS m' n0 n' fb s mp N me L rows ws' ∧ ∃ hj' : j < ws'.length, ((j < ws.length ∧ ws' = ws) ∨ ∃ r, j = ws.length ∧ ws' = ws ++ [r] ∧ r.M = [] ∧ r.B = List.replicate 64 (-1) ∧ n ≤ r.s ∧ n ≤ r.b) ∧ n ≤ n' ∧
    (∀ i, i < n → i ≠ mp → m'.get i = m.get i) ∧ (Fs m n → Fs m' n') ∧ Exact Try.prog fFibstatewheel [pp s, vi (j : Int)] m n (pp ws'[j].w) m' n' := by
  rcases Nat.lt_or_ge j ws.length with hlt | hge
  · exact ⟨m, n, ws, h, hlt, .inl ⟨hlt, rfl⟩, Nat.le_refl _, fun _ _ _ => rfl, id, wheel_old h hlt⟩
  · have : j = ws.length := by omega
    subst this
    obtain ⟨m', n', r, h1, h2, h3, h4, h5, h6, h7, h8, h9⟩ := wheel_new h hn
    exact ⟨m', n', ws ++ [r], h1, by simp, .inr ⟨r, rfl, rfl, h2, h3, h5, h6⟩, h4, h7, h8, by simpa [-Bool.exists_bool] using h9⟩
theorem storeN {b T sz off : Nat} {cs vs : List Value} (h : m.get b = some (.cells none T sz cs)) (hl : off + vs.length ≤ cs.length) (hv : vs.all cellOk = true) :
    ∃ m', storeCs m b off vs = some m' ∧ m'.get b = some (.cells none T sz (cs.take off ++ (vs ++ cs.drop (off + vs.length)))) ∧ ∀ i, i ≠ b → m'.get i = m.get i := by
  refine ⟨_, store_of h hl hv, by simp [-Bool.exists_bool, Tr.get_set], fun i hi => by rw [Tr.get_set, if_neg (fun e => hi e.symm)]⟩
theorem fentOk : elemOk Try.prog tLfibentry tFibentry 2 = true := by kernel_rfl
/-- What stands while the entries are put. -/
structure UpS (mB : Mem) (nB : Nat) (m : Mem) (n0 n fb s mp : Nat) (N me : Int) (L : List Lk) (rows : List ERow) (ws : List WR) (la ea : Option Addr) : Prop where
  fib : FibS m n0 n fb s mp N me L rows ws
  g1 : m.get s = some (.cells none tFibstate 5 [vi N, vi me, .slice la L.length L.length, .slice ea rows.length rows.length, .map (some mp)])
  g2 : Ow m n0 n tApiLink 3 la L.length L.length (L.flatMap encL)
  g3 : Ow m n0 n tFibentry 2 ea rows.length rows.length (rows.flatMap encE)
  g4 : ∀ r ∈ ws, ∀ x, Sp11.memBlk m r.s x → x ≠ s ∧ ∀ o s', ea ≠ some ⟨x, o, s'⟩
  eb : ∀ b o s', ea = some ⟨b, o, s'⟩ → nB ≤ b
  le : nB ≤ n
  same : ∀ i, i < nB → i ≠ s → m.get i = mB.get i
  fs : Fs m n
theorem upd_k0 {mB : Mem} {nB : Nat} {R : List ERow} {oa : Option Addr} (hR : R.length ≤ 32) (hR1 : ∀ r ∈ R, 0 < r.xs.length ∧ r.xs.length ≤ 128) (hRa : AscE R) (hRw : ∀ r ∈ ws, ∀ q ∈ R, ∀ o s', q.a ≠ some ⟨r.b, o, s'⟩) (h0B : n0 ≤ nB) (hsB : s < nB) {xsB : List Value} (hgB : mB.get s = some (.cells none tFibstate 5 xsB))
    (hO : Ow mB n0 nB tApiEntry 2 oa R.length R.length (R.flatMap encE)) (hE : EntO mB n0 nB R) :
    ∀ (post pre : List ERow) (m : Mem) (n : Nat) (la ea : Option Addr), R = pre ++ post → UpS mB nB m n0 n fb s mp N me L pre ws la ea →
    ∃ m' n' la' ea', UpS mB nB m' n0 n' fb s mp N me L R ws la' ea' ∧ ∀ Q : Value → Mem → Nat → Prop, W Try.prog { fn := fFibFibUpdate, nt := 109, slots := [(0, pp fb), (84, vi N), (85, vi 0)], todo := pt Try.prog fFibFibUpdate [1, 1, 1, 1, 0, 1, 0, 0] } m' n' Q →
      W Try.prog { fn := fFibFibUpdate, nt := 109, slots := [(0, pp fb), (55, .slice oa R.length R.length), (56, vi R.length), (57, vi pre.length)], todo := pt Try.prog fFibFibUpdate [1, 1, 1, 0, 1, 0, 0] } m n Q
  | [], pre, m, n, la, ea, hp, u => by
    simp only [List.append_nil] at hp
    subst hp
    refine ⟨m, n, la, ea, u, fun Q hq => ?_⟩
    refine W_of mixed (cfg := xcfg) (fuel := 400) ?_
    rw [xFibFibUpdatek0]
    exact condDF (by omega) ⟨isC_of u.fib.gf, _, rd_of u.fib.gf rfl, isC_of u.g1, _, rd_of u.g1 rfl, hq⟩
  | q :: post, pre, m, n, la, ea, hp, u => by
    have hlt : pre.length < R.length := by rw [hp]; simp [-Bool.exists_bool]
    have hq : R[pre.length] = q := by simp [-Bool.exists_bool, hp]
    have hqm : q ∈ R := by rw [hp]; simp [-Bool.exists_bool]
    have hle := u.le
    have hsn : s < n := by omega
    obtain ⟨l1, l2, l3⟩ := u.fib.hi
    -- the slice that is read
    have hOm : Ow m n0 n tApiEntry 2 oa R.length R.length (R.flatMap encE) := hO.same hle fun b o s' e => by
      refine u.same b (hO.bnd e).2 ?_
      rintro rfl
      exact ow_notT hO hgB (by decide) _ _ e
    obtain ⟨m8, e8, g8, k8⟩ := storeN (m := m.set n (.cells none tApiEntry 2 [.int .u32 0, .slice none 0 0])) (b := n) (T := tApiEntry) (sz := 2) (cs := [.int .u32 0, .slice none 0 0]) (off := 0) (vs := encE q) (by simp [-Bool.exists_bool, Tr.get_set]) (by simp [-Bool.exists_bool, encE]) (by simp [-Bool.exists_bool, encE, cellOk])
    have g8 : m8.get n = some (.cells none tApiEntry 2 (encE q)) := by rw [g8]; simp [-Bool.exists_bool, encE]
    have k8 : ∀ i, i ≠ n → m8.get i = m.get i := fun i hi => by rw [k8 i hi, Tr.get_set, if_neg (fun e => hi e.symm)]
    generalize e20 : m8.set (n + 1 + 12) (.cells none tFibentry 2 (encE q)) = m20
    have k20 : ∀ i, i < n → m20.get i = m.get i := fun i hi => by rw [← e20, Tr.get_set, if_neg (by omega)]; exact k8 i (by omega)
    have hsc : sliceCells m20 2 1 (.slice (some ⟨n + 1 + 12, 0, none⟩) 1 1) = some (encE q) := one_row (T := tFibentry) (sz := 2) (by rw [← e20]; simp [-Bool.exists_bool, Tr.get_set]) rfl
    have how4 : Ow m20 n0 (n + 1 + 17) tFibentry 2 ea pre.length pre.length (pre.flatMap encE) := u.g3.same (by omega) fun b o s' e => k20 b (u.g3.bnd e).2
    obtain ⟨a5, m5, n5, r1, r2, r3, r4, r5, r6⟩ := how4.append (t := tLfibentry) (k := 1) fentOk hsc (by simp [-Bool.exists_bool, encE, cellOk]) (by simp [-Bool.exists_bool, encE]) (by omega) (by omega)
    have f5 : m5.get fb = m.get fb := by
      rw [r5 fb (by omega) (fun b o s' e => by rintro rfl; exact ow_notT u.g3 u.fib.gf (by decide) _ _ e), k20 fb l1]
    have s5 : m5.get s = m.get s := by
      rw [r5 s (by omega) (fun b o s' e => by rintro rfl; exact ow_notT u.g3 u.g1 (by decide) _ _ e), k20 s l2]
    obtain ⟨m6, e6, g6, k6⟩ := storeN (m := m5) (b := s) (off := 3) (vs := [.slice a5 (pre.length + 1) (pre.length + 1)]) (s5.trans u.g1) (by simp [-Bool.exists_bool]) (by simp [-Bool.exists_bool, cellOk])
    have g6 : m6.get s = some (.cells none tFibstate 5 [vi N, vi me, .slice la L.length L.length, .slice a5 (pre ++ [q]).length (pre ++ [q]).length, .map (some mp)]) := by rw [g6]; simp [-Bool.exists_bool]
    have k56 : ∀ i, i < n → i ≠ s → (∀ o s', ea ≠ some ⟨i, o, s'⟩) → m6.get i = m.get i := fun i hi h1 h2 => by
      rw [k6 i h1, r5 i (by omega) (fun b o s' e => by rintro rfl; exact h2 _ _ e), k20 i hi]
    have a5s : ∀ b o s', a5 = some ⟨b, o, s'⟩ → b ≠ s := fun b o s' e => by
      rintro rfl
      rcases r4 _ _ _ e with ⟨o2, s2, e2⟩ | h2
      · exact ow_notT u.g3 u.g1 (by decide) _ _ e2
      · omega
    have ow6 : Ow m6 n0 n5 tFibentry 2 a5 (pre ++ [q]).length (pre ++ [q]).length ((pre ++ [q]).flatMap encE) := by
      have : (pre ++ [q]).length = pre.length + 1 := by simp [-Bool.exists_bool]
      rw [this]
      have r2' := r2.same (m' := m6) (Nat.le_refl _) fun b o s' e => k6 b (a5s b o s' e)
      simpa [-Bool.exists_bool] using r2'
    have hEm : EntO m6 n0 n5 R := fun r hr => (hE r hr).same (by omega) fun b o s' e => by
      have hb := (hE r hr).bnd e
      have hbs : b ≠ s := by rintro rfl; exact ow_notT (hE r hr) hgB (by decide) _ _ e
      have hbe : ∀ o s', ea ≠ some ⟨b, o, s'⟩ := fun o s' e2 => by have := u.eb _ _ _ e2; omega
      rw [k56 b (by omega) hbs hbe]
      exact u.same b hb.2 hbs
    have hsub : ∀ r ∈ pre ++ [q], r ∈ R := fun r hr => by
      rw [hp]
      rcases List.mem_append.1 hr with h | h
      · exact List.mem_append_left _ h
      · rw [List.mem_singleton.1 h]; simp [-Bool.exists_bool]
    have hpl : pre.length + 1 ≤ R.length := hlt
    have fib6 : FibS m6 n0 n5 fb s mp N me L (pre ++ [q]) ws := u.fib.put u.g1 u.g2 u.g3 u.g4 g6 ow6 (fun r hr => hEm r (hsub r hr)) (by simp; omega)
      (fun r hr => hR1 r (hsub r hr)) (by unfold AscE at hRa ⊢; rw [hp, show pre ++ q :: post = (pre ++ [q]) ++ post by simp] at hRa; exact (List.pairwise_append.1 hRa).1) (fun r hr q' hq' => hRw r hr q' (hsub q' hq'))
      (fun b o s' e => by rcases r4 _ _ _ e with h | h; exact .inl h; exact .inr (by omega)) (by omega) k56
    obtain ⟨la2, ea2, q1, q2, q3, q4⟩ := fib6.gs
    rw [g6] at q1
    simp only [Option.some.injEq, AObj.cells.injEq, List.cons.injEq, Value.slice.injEq, and_true, true_and] at q1
    obtain ⟨rfl, rfl⟩ := q1
    have u6 : UpS mB nB m6 n0 n5 fb s mp N me L (pre ++ [q]) ws la a5 := by
      refine ⟨fib6, g6, q2, q3, q4, fun b o s' e => ?_, by omega, fun i hi his => ?_, ?_⟩
      · rcases r4 _ _ _ e with ⟨o2, s2, e2⟩ | h2
        · exact u.eb _ _ _ e2
        · omega
      · rw [k56 i (by omega) his (fun o s' e => by have := u.eb _ _ _ e; omega)]
        exact u.same i hi his
      · have := r6 fun i hi => by rw [← e20, Tr.get_set, if_neg (by omega), k8 i (by omega)]; exact u.fs i (by omega)
        exact fun i hi => by rw [k6 i (by omega)]; exact this i hi
    obtain ⟨m', n', la', ea', u', run⟩ := upd_k0 hR hR1 hRa hRw h0B hsB hgB hO hE post (pre ++ [q]) m6 n5 la a5 (by rw [hp]; simp [-Bool.exists_bool]) u6
    refine ⟨m', n', la', ea', u', fun Q hq' => ?_⟩
    have fin := run Q hq'
    rw [show (((pre ++ [q]).length : Nat) : Int) = ((pre.length + 1 : Nat) : Int) by simp, ← wrapN (k := pre.length) (by omega)] at fin
    refine W_of mixed (cfg := xcfg) (fuel := 400) ?_
    rw [xFibFibUpdatek0]
    refine condDT (by omega) (hOm.sl.ldv encE_len hlt (by omega) fun b o s' _ _ rr => ⟨_, _, _, _, by rw [hq] at rr; exact rr, memLet.mk fun mm e => ?_⟩)
    subst e
    have f8 : m8.get fb = some (.cells none tFibFib 1 [pp s]) := (k8 fb (by omega)).trans u.fib.gf
    refine ⟨m8, e8, isC_of f8, _, rd_of f8 rfl, isC_of f8, _, rd_of f8 rfl, isC_of ((k8 s (by omega)).trans u.g1), _, _, _, rd_of ((k8 s (by omega)).trans u.g1) rfl, _, _, _, _, rds_of g8, memLet.mk fun mm e => ?_⟩
    have e : mm = m20 := e.trans e20
    subst e
    exact ⟨_, _, _, _, _, r1, isC_of (s5.trans u.g1), m6, e6, ⟨_, rd_of (f5.trans u.fib.gf) rfl, rfl⟩, ⟨isC_of (f5.trans u.fib.gf), rfl⟩, by omega, by omega, fin⟩
end
end Go.Proofs.Ytiomjekkmjinbaa

set_option maxRecDepth 100000
namespace Go.Proofs.Ytiomjekkmjinbaa
open Go Go.Ab Spf
section
variable {m m' m0 : Mem} {n n' n0 fb s mp k : Nat} {N me y : Int} {L : List Lk} {rows : List ERow} {ws : List WR}
theorem sl_pre {cs : List Value} {b o o' : Nat} {s s' : Option Nat} {c c' : Nat} (h : Sl m n (some ⟨b, o, s⟩) c cs) (ho : offOf o' s' = offOf o s) (hc : s' ≠ none → 0 < c') (k : Nat) : Sl m n (some ⟨b, o', s'⟩) c' (cs.take k) := by
  rcases h with ⟨h1, _⟩ | ⟨b1, o1, s1, full, h1, h2, h3, h4, h5, h6⟩
  · cases h1
  · cases h1
    refine .inr ⟨b, o', s', full, rfl, h2, h3, fun hne => ?_, ?_, ?_⟩
    · have := h4 (by rintro rfl; simp [-Bool.exists_bool] at hne)
      exact ⟨this.1, hc, this.2.2⟩
    · rw [ho, List.length_take]; omega
    · rw [ho, List.length_take]
      conv => rhs; rw [← h6]
      rw [List.take_take]
/-- A slice cut behind. -/
def cutA (a : Option Addr) (c : Nat) : Option Addr := match a with
  | none => none
  | some ⟨b, o, none⟩ => some ⟨b, if c = 0 then o else o + 0, none⟩
  | some ⟨b, _, some t⟩ => some ⟨b, if c = 0 then t else t + 0, some (t + 0)⟩
theorem cutA_blk {a : Option Addr} {c b o : Nat} {s' : Option Nat} (h : cutA a c = some ⟨b, o, s'⟩) : ∃ o s', a = some ⟨b, o, s'⟩ := by
  unfold cutA at h
  split at h
  · cases h
  · simp only [Option.some.injEq, Addr.mk.injEq] at h; exact ⟨_, _, by rw [h.1]⟩
  · simp only [Option.some.injEq, Addr.mk.injEq] at h; exact ⟨_, _, by rw [h.1]⟩
theorem cutA_sl {a : Option Addr} {c : Nat} {X : List Int} (h : Sl m n a c (X.map vi)) (h0 : X = [] → a = none) (hc : c = X.length) (k : Nat) : Sl m n (cutA a c) (c - 0) ((X.take k).map vi) := by
  rw [List.map_take]
  unfold cutA
  split
  · rcases h with ⟨_, h⟩ | ⟨b, o, s, full, h, _⟩
    · rw [h]; exact .inl ⟨rfl, by simp⟩
    · cases h
  · exact sl_pre h (by simp [-Bool.exists_bool, offOf]) (fun h => (h rfl).elim) k
  · refine sl_pre h (by simp [-Bool.exists_bool, offOf]) (fun _ => ?_) k
    have : X ≠ [] := fun e => by have := h0 e; cases this
    have := List.length_pos_iff.2 this
    omega
def oldMB (ws0 : List WR) (i : Nat) : List Int × List Int := match ws0[i]? with
  | some r => (r.M, r.B)
  | none => ([], List.replicate 64 (-1))
/-- What stands while the wheels are set. -/
structure UpW (mB : Mem) (nB : Nat) (m : Mem) (n0 n fb s mp : Nat) (N me : Int) (L : List Lk) (R : List ERow) (ws0 ws : List WR) (j : Nat) : Prop where
  fib : FibS m n0 n fb s mp N me L R ws
  le : nB ≤ n
  fs : Fs m n
  same : ∀ i, i < nB → i ≠ mp → (∀ r ∈ ws0, i ≠ r.s ∧ i ≠ r.b) → m.get i = mB.get i
  old : ∀ i (h : i < ws.length) (h0 : i < ws0.length), ws[i].s = ws0[i].s ∧ ws[i].b = ws0[i].b
  new : ∀ i (h : i < ws.length), ws0.length ≤ i → nB ≤ ws[i].s ∧ nB ≤ ws[i].b
  val : ∀ i (h : i < ws.length), (ws[i].M, ws[i].B) = if i < j then (Sp.setF ((lookP R (lo i)).take 64) (oldMB ws0 i).1 (oldMB ws0 i).2).2 else oldMB ws0 i
  len : ws.length = max j ws0.length
theorem upd_k1 {mB : Mem} {nB : Nat} {R : List ERow} {ws0 : List WR} (hN : N ≤ 32) (h0B : n0 ≤ nB) : ∀ (k j : Nat) (m : Mem) (n : Nat) (ws : List WR), (j : Int) + k = N → UpW mB nB m n0 n fb s mp N me L R ws0 ws j →
    ∃ m' n' ws', UpW mB nB m' n0 n' fb s mp N me L R ws0 ws' N.toNat ∧ ∀ Q : Value → Mem → Nat → Prop, Q (vi 0) m' n' →
      W Try.prog { fn := fFibFibUpdate, nt := 109, slots := [(0, pp fb), (84, vi N), (85, vi j)], todo := pt Try.prog fFibFibUpdate [1, 1, 1, 1, 0, 1, 0, 0] } m n Q := by
  intro k
  induction k with
  | zero =>
    intro j m n ws hj u
    refine ⟨m, n, ws, by rw [show N.toNat = j by omega]; exact u, fun Q hq => ?_⟩
    refine W_of mixed (cfg := xcfg) (fuel := 400) ?_
    rw [xFibFibUpdatek1]
    exact condDF (by omega) hq
  | succ k ih =>
    intro j m n ws hj u
    have hle := u.le
    obtain ⟨l1, l2, l3⟩ := u.fib.hi
    obtain ⟨a, m1, n1, ow1, hnil, le1, fs1, run1⟩ := lookup_x u.fib (lo j)
    have hX := lookP_len (y := lo j) u.fib
    generalize hXe : lookP R (lo j) = X at ow1 hnil run1 hX
    have hle1 := le1.le
    have fib1 : FibS m1 n0 (n1 + 12) fb s mp N me L R ws := u.fib.le (le1.trans (Le.refl.up (by omega)))
    have hjl : j ≤ ws.length := by rw [u.len]; omega
    obtain ⟨m2, n2, ws2, fib2, hj', hcase, hle2, same2, fs2, run2⟩ := wheel_any fib1 (by omega) hjl
    have fsm2 : Fs m2 n2 := fs2 ((fs1 u.fs).up (by omega))
    have hws : ∀ i (h : i < ws2.length), (∃ h' : i < ws.length, ws2[i] = ws[i]) ∨ (i = ws.length ∧ i = j ∧ (ws2[i].M = [] ∧ ws2[i].B = List.replicate 64 (-1)) ∧ n1 + 12 ≤ ws2[i].s ∧ n1 + 12 ≤ ws2[i].b) := fun i hi => by
      rcases hcase with ⟨_, rfl⟩ | ⟨r, h1, rfl, h3, h4, h5, h6⟩
      · exact .inl ⟨hi, rfl⟩
      · rw [List.getElem_append]
        split
        · rename_i hh; exact .inl ⟨hh, rfl⟩
        · simp only [List.length_append, List.length_singleton] at hi
          have : i = ws.length := by omega
          refine .inr ⟨this, by omega, ?_⟩
          simp only [List.getElem_singleton]
          exact ⟨⟨h3, h4⟩, h5, h6⟩
    have hlen2 : ws2.length = max (j + 1) ws0.length := by
      have := u.len
      rcases hcase with ⟨h1, rfl⟩ | ⟨r, h1, rfl, _⟩
      · omega
      · simp only [List.length_append, List.length_singleton]; omega
    have hab : ∀ b o s', a = some ⟨b, o, s'⟩ → n ≤ b ∧ b < n1 := fun b o s' e => ow1.bnd e
    have hsl2 : Sl m2 n2 a X.length (X.map vi) := ow1.sl.same (by omega) fun b o s' e => same2 b (by have := hab _ _ _ e; omega) (by have := hab _ _ _ e; omega)
    have hcut : Sl m2 n2 (cutA a X.length) (X.length - 0) ((X.take 64).map vi) := cutA_sl hsl2 hnil rfl 64
    have hne : ∀ q, (q = ws2[j].b ∨ q = ws2[j].s) → ∀ o s', cutA a X.length ≠ some ⟨q, o, s'⟩ := fun q hq o s' e => by
      obtain ⟨o2, s2, e2⟩ := cutA_blk e
      have hb := hab _ _ _ e2
      rcases hws j hj' with ⟨h', e3⟩ | ⟨_, _, _, h5, h6⟩
      · have := wb_lt u.fib (List.getElem_mem h')
        rw [e3] at hq
        omega
      · omega
    obtain ⟨m3, n3, fib3, hle3, same3, fs3, run3⟩ := wset_x fib2 (by omega) fsm2 hj' hcut (by simp; omega) (hne _ (.inl rfl)) (hne _ (.inr rfl))
    have u3 : UpW mB nB m3 n0 n3 fb s mp N me L R ws0 (ws2.set j (ws2[j].put (X.take 64))) (j + 1) := by
      refine ⟨fib3, by omega, fs3, fun i hi hmp hno => ?_, fun i hi h0 => ?_, fun i hi h0 => ?_, fun i hi => ?_, by simpa [-Bool.exists_bool] using hlen2⟩
      · rw [same3 i (by omega) ?_ ?_, same2 i (by omega) hmp, le1.same i (by omega)]
        · exact u.same i hi hmp hno
        all_goals
          rcases hws j hj' with ⟨h', e3⟩ | ⟨_, _, _, h5, h6⟩
          · rw [e3]
            by_cases hj0 : j < ws0.length
            · obtain ⟨a1, a2⟩ := u.old j h' hj0
              obtain ⟨b1, b2⟩ := hno _ (List.getElem_mem hj0)
              first | (rw [a1]; exact b1) | (rw [a2]; exact b2)
            · obtain ⟨a1, a2⟩ := u.new j h' (by omega)
              omega
          · omega
      · have hi' : i < ws2.length := by simpa [-Bool.exists_bool] using hi
        have e1 : (ws2.set j (ws2[j].put (X.take 64)))[i].s = ws2[i].s ∧ (ws2.set j (ws2[j].put (X.take 64)))[i].b = ws2[i].b := by
          rw [List.getElem_set]; split
          · rename_i e; subst e; exact ⟨rfl, rfl⟩
          · exact ⟨rfl, rfl⟩
        rw [e1.1, e1.2]
        rcases hws i hi' with ⟨h', e3⟩ | ⟨h4, _⟩
        · rw [e3]; exact u.old i h' h0
        · have := u.len; omega
      · have hi' : i < ws2.length := by simpa [-Bool.exists_bool] using hi
        have e1 : (ws2.set j (ws2[j].put (X.take 64)))[i].s = ws2[i].s ∧ (ws2.set j (ws2[j].put (X.take 64)))[i].b = ws2[i].b := by
          rw [List.getElem_set]; split
          · rename_i e; subst e; exact ⟨rfl, rfl⟩
          · exact ⟨rfl, rfl⟩
        rw [e1.1, e1.2]
        rcases hws i hi' with ⟨h', e3⟩ | ⟨_, _, _, h5, h6⟩
        · rw [e3]; exact u.new i h' h0
        · omega
      · have hi' : i < ws2.length := by simpa [-Bool.exists_bool] using hi
        have hv : (ws2[i].M, ws2[i].B) = if i < j then (Sp.setF ((lookP R (lo i)).take 64) (oldMB ws0 i).1 (oldMB ws0 i).2).2 else oldMB ws0 i := by
          rcases hws i hi' with ⟨h', e3⟩ | ⟨h4, h5, ⟨h6, h7⟩, _⟩
          · rw [e3]; exact u.val i h'
          · rw [if_neg (by omega), h6, h7]
            have : ws0[i]? = none := by rw [List.getElem?_eq_none_iff]; have := u.len; omega
            unfold oldMB; rw [this]
        rw [List.getElem_set]
        split
        · rename_i e
          subst e
          rw [if_neg (by omega)] at hv
          rw [if_pos (by omega), hXe]
          have h1 := congrArg Prod.fst hv
          have h2 := congrArg Prod.snd hv
          simp only at h1 h2
          unfold WR.put
          simp only
          rw [h1, h2]
        · rename_i hij
          rw [hv]
          by_cases h : i < j
          · rw [if_pos h, if_pos (by omega)]
          · rw [if_neg h, if_neg (by omega)]
    obtain ⟨m', n', ws', u', run⟩ := ih (j + 1) m3 n3 _ (by omega) u3
    refine ⟨m', n', ws', u', fun Q hq => ?_⟩
    have fin := run Q hq
    rw [← wrapN (k := j) (by omega)] at fin
    refine W_of mixed (cfg := xcfg) (fuel := 400) ?_
    rw [xFibFibUpdatek1]
    refine condDT (by omega) (loopback_c (by omega) (by omega) ⟨_, _, rfl, Later.mk (run1 _ ⟨_, _, _, rfl, Later.mk ⟨isC_of ((le1.same fb l1).trans u.fib.gf), _, rd_of ((le1.same fb l1).trans u.fib.gf) rfl, _, _, _, run2 _ ⟨rfl, rfl, rfl⟩, Later.mk ?_⟩⟩)⟩)
    have hlenX : (if 64 < (X.length : Int) then (64 : Int) else (X.length : Int)).toNat - 0 = (X.take 64).length := by
      rw [List.length_take]; split <;> omega
    have hr : (0 ≤ if 64 < (X.length : Int) then (64 : Int) else (X.length : Int)) ∧ (if 64 < (X.length : Int) then (64 : Int) else (X.length : Int)) ≤ (X.length : Int) := by constructor <;> split <;> omega
    have cont : ∀ xa, xa = cutA a X.length → ∃ x18 m19 k20, (Wc Try.prog fSpreadWheelSet [pp ws2[j].w, .slice xa ((if 64 < (X.length : Int) then (64 : Int) else (X.length : Int)).toNat - 0) (X.length - 0)] m2 n2 fun v21 m22 k23 => v21 = vi x18 ∧ m22 = m19 ∧ k23 = k20) ∧
        Later (vi (if 64 < (X.length : Int) then (64 : Int) else (X.length : Int)) = vi (if 64 < (X.length : Int) then (64 : Int) else (X.length : Int)) ∧ vi (X.length : Int) = vi (X.length : Int) ∧ n1 + 12 ≤ n2 ∧ n1 + 12 ≤ k20 ∧
          W Try.prog { fn := fFibFibUpdate, nt := 109, slots := [(0, pp fb), (84, vi N), (85, vi (IntKind.i64.wrap ((j : Int) + 1)))], todo := pt Try.prog fFibFibUpdate [1, 1, 1, 1, 0, 1, 0, 0] } m19 k20 Q) := fun xa e => by
      rw [hlenX, e]
      exact ⟨_, _, _, run3 _ ⟨rfl, rfl, rfl⟩, Later.mk ⟨rfl, rfl, hle2, by omega, fin⟩⟩
    match a, hnil, cont with
    | none, _, cont => exact ⟨hr, cont none rfl⟩
    | some ⟨b, o, none⟩, _, cont => exact ⟨hr, cont _ rfl⟩
    | some ⟨b, o, some t⟩, hnil, cont =>
      have : 0 < X.length := List.length_pos_iff.2 fun e => by have := hnil e; cases this
      exact ⟨hr, ⟨by omega, this⟩, cont _ rfl⟩
end
end Go.Proofs.Ytiomjekkmjinbaa

set_option maxRecDepth 100000
namespace Go.Proofs.Ytiomjekkmjinbaa
open Go Go.Ab Spf
section
variable {m m' m0 : Mem} {n n' n0 fb s mp k : Nat} {N me y : Int} {L : List Lk} {U : List Bool} {rows : List ERow} {ws : List WR}
theorem OfL.full : ∀ {k : Nat} {E : List (Int × List Int)}, OfL N L U me k E → ∀ e ∈ E, 0 < e.2.length ∧ e.2.length ≤ 128
  | 0, _, h, e, he => by rw [h] at he; cases he
  | k + 1, _, ⟨E, D, h1, h2, h3⟩, e, he => by
    rw [h3] at he
    split at he
    · exact h1.full e he
    · rename_i hD
      rcases List.mem_append.1 he with he | he
      · exact h1.full e he
      · rw [List.mem_singleton.1 he]; exact ⟨List.length_pos_iff.2 hD, h2.len⟩
theorem OfR.props {R : List ERow} (hN : N ≤ 32) (h : OfR N L U me (R.map ERow.key)) : R.length ≤ 32 ∧ (∀ r ∈ R, 0 < r.xs.length ∧ r.xs.length ≤ 128) ∧ AscE R := by
  unfold OfR at h
  split at h
  · have h1 := h.len
    simp only [List.length_map] at h1
    refine ⟨by omega, fun r hr => h.full r.key (List.mem_map_of_mem hr), ?_⟩
    have h2 := h.asc.1
    rw [List.pairwise_map] at h2
    exact h2
  · have : R = [] := by simpa [-Bool.exists_bool] using h
    subst this
    exact ⟨by simp, (fun _ h => nomatch h), List.Pairwise.nil⟩
/-- What Update leaves. -/
structure UpR (m : Mem) (n : Nat) (m' : Mem) (n0 n' fb s mp : Nat) (N me : Int) (L : List Lk) (U : List Bool) (R : List ERow) (ws0 ws : List WR) : Prop where
  fib : FibS m' n0 n' fb s mp N me L R ws
  of : OfR N L U me (R.map ERow.key)
  le : n ≤ n'
  fs : Fs m' n'
  same : ∀ i, i < n → i ≠ s → i ≠ mp → (∀ r ∈ ws0, i ≠ r.s ∧ i ≠ r.b) → m'.get i = m.get i
  old : ∀ i (h : i < ws.length) (h0 : i < ws0.length), ws[i].s = ws0[i].s ∧ ws[i].b = ws0[i].b
  new : ∀ i (h : i < ws.length), ws0.length ≤ i → n ≤ ws[i].s ∧ n ≤ ws[i].b
  val : ∀ i (h : i < ws.length), i < N.toNat → (ws[i].M, ws[i].B) = (Sp.setF ((lookP R (lo i)).take 64) (oldMB ws0 i).1 (oldMB ws0 i).2).2
  len : ws.length = max N.toNat ws0.length
theorem update_bad {ua : Option Addr} {ul uc : Nat} (h : FibS m n0 n fb s mp N me L rows ws) (hul : ul ≠ L.length) : Exact Try.prog fFibFibUpdate [pp fb, .slice ua ul uc] m n (vi 2) m n := by
  obtain ⟨la, ea, g1, g2, g3, g4⟩ := h.gs
  intro Q hq
  refine Wc_of mixed (cfg := xcfg) (fuel := 400) ?_
  rw [xFibFibUpdate]
  exact fvalid_c h ⟨_, rfl, Later.mk (condF rfl ⟨isC_of h.gf, _, rd_of h.gf rfl, isC_of g1, _, _, _, rd_of g1 rfl, condNT (by omega) hq⟩)⟩
theorem update_c (h : FibS m n0 n fb s mp N me L rows ws) (hf : Fs m n) (hn : n0 ≤ n) (hN0 : 0 ≤ N) (hN : N ≤ 32) {ua : Option Addr} {ul uc : Nat} (hu : U.length = ul) (hU : Sl m n ua uc (U.map Value.bool)) (hul : U.length = L.length) (hua : ∀ o s', ua ≠ some ⟨s, o, s'⟩) :
    ∃ m' n' R ws', UpR m n m' n0 n' fb s mp N me L U R ws ws' ∧ Exact Try.prog fFibFibUpdate [pp fb, .slice ua ul uc] m n (vi 0) m' n' := by
  subst hu
  obtain ⟨la, ea, g1, g2, g3, g4⟩ := h.gs
  obtain ⟨l1, l2, l3⟩ := h.hi
  obtain ⟨m1, e1, k1, k1s⟩ := storeN (m := m) (b := s) (off := 3) (vs := [.slice none 0 0]) g1 (by simp [-Bool.exists_bool]) (by simp [-Bool.exists_bool, cellOk])
  have k1 : m1.get s = some (.cells none tFibstate 5 [vi N, vi me, .slice la L.length L.length, .slice none 0 0, .map (some mp)]) := by rw [k1]; simp [-Bool.exists_bool]
  have fib1 : FibS m1 n0 n fb s mp N me L [] ws := h.put g1 g2 g3 g4 k1 Ow.nil (fun _ h => nomatch h) (by simp [-Bool.exists_bool]) (fun _ h => nomatch h) List.Pairwise.nil (fun _ _ _ h => nomatch h) (fun _ _ _ h => nomatch h) (Nat.le_refl _) fun i _ h1 _ => k1s i h1
  have f1 : Fs m1 n := fun i hi => by rw [k1s i (by omega)]; exact hf i hi
  have lek : Le m1 n m1 (n + 25) := Le.refl.up (by omega)
  have hL1 : Sl m1 (n + 25) la L.length (L.flatMap encL) := by
    obtain ⟨la2, ea2, q1, q2, _⟩ := fib1.gs
    rw [k1] at q1
    simp only [Option.some.injEq, AObj.cells.injEq, List.cons.injEq, Value.slice.injEq, and_true, true_and] at q1
    obtain ⟨rfl, _⟩ := q1
    exact (q2.le lek).sl
  have hU1 : Sl m1 (n + 25) ua uc (U.map Value.bool) := hU.same (by omega) fun b o s' e => k1s b (by rintro rfl; exact hua _ _ e)
  obtain ⟨mB, nB, oa, R, hR, owB, entB, leB, fsB, runB⟩ := of_c (N := N) (f := me) (ll := L.length) (ul := U.length) rfl rfl hL1 hU1
  obtain ⟨p1, p2, p3⟩ := hR.props hN
  have hnB := leB.le
  have fibB : FibS mB n0 nB fb s mp N me L [] ws := (fib1.le lek).le leB
  have sB : mB.get s = _ := (leB.same s (by omega)).trans k1
  obtain ⟨la2, ea2, q1, q2, q3, q4⟩ := fibB.gs
  rw [sB] at q1
  simp only [List.length_nil, Option.some.injEq, AObj.cells.injEq, List.cons.injEq, Value.slice.injEq, and_true, true_and] at q1
  obtain ⟨rfl, rfl⟩ := q1
  have uB : UpS mB nB mB n0 nB fb s mp N me L [] ws la none := ⟨fibB, sB, q2, q3, q4, (fun _ _ _ h => nomatch h), Nat.le_refl _, fun _ _ _ => rfl, fsB (f1.up (by omega))⟩
  obtain ⟨m2, n2, la', ea', u2, run2⟩ := upd_k0 p1 p2 p3 (fun r hr q hq o s' e => by
    have := ((entB q hq).bnd e).1
    have := (wb_lt h hr).2.2
    omega) (by omega) (by omega) sB (owB.low (by omega)) (fun r hr => (entB r hr).low (by omega)) R [] mB nB la none rfl uB
  have uW : UpW m2 n2 m2 n0 n2 fb s mp N me L R ws ws 0 := ⟨u2.fib, Nat.le_refl _, u2.fs, fun _ _ _ _ => rfl, fun _ _ _ => ⟨rfl, rfl⟩, fun i h1 h2 => by omega, fun i hi => by rw [if_neg (by omega)]; unfold oldMB; rw [List.getElem?_eq_getElem hi], by omega⟩
  have hle2 := u2.le
  obtain ⟨m', n', ws', u', run'⟩ := upd_k1 (mB := m2) (nB := n2) (ws0 := ws) hN (by omega) N.toNat 0 m2 n2 ws (by omega) uW
  have hle' := u'.le
  refine ⟨m', n', R, ws', ⟨u'.fib, hR, by omega, u'.fs, fun i hi h1 h2 h3 => ?_, u'.old, fun i h1 h2 => by have := u'.new i h1 h2; omega, fun i h1 h2 => by rw [u'.val i h1, if_pos h2], u'.len⟩, fun Q hq => ?_⟩
  · rw [u'.same i (by omega) h2 h3, u2.same i (by omega) h1, leB.same i (by omega), k1s i h1]
  · refine Wc_of mixed (cfg := xcfg) (fuel := 400) ?_
    rw [xFibFibUpdate]
    have gf1 := fib1.gf
    exact fvalid_c h ⟨_, rfl, Later.mk (condF rfl ⟨isC_of h.gf, _, rd_of h.gf rfl, isC_of g1, _, _, _, rd_of g1 rfl, condNF (by omega) ⟨isC_of h.gf, _, rd_of h.gf rfl, isC_of g1, m1, e1, isC_of gf1, _, rd_of gf1 rfl, isC_of k1, _, rd_of k1 rfl, isC_of gf1, _, rd_of gf1 rfl, isC_of k1, _, _, _, rd_of k1 rfl, isC_of gf1, _, rd_of gf1 rfl, isC_of k1, _, rd_of k1 rfl, _, _, _, _, _, runB _ ⟨rfl, rfl, rfl⟩, Later.mk ⟨hnB, run2 Q (run' Q hq)⟩⟩⟩)⟩
end
end Go.Proofs.Ytiomjekkmjinbaa

set_option maxRecDepth 100000
namespace Go.Proofs.Ytiomjekkmjinbaa
open Go Go.Ab Spf
section
variable {m m' m0 : Mem} {n n' n0 fb s mp k b : Nat} {N me y nd : Int} {kn : Bool} {L : List Lk} {rows : List ERow} {ws : List WR} {p : Nat → Int}
/-- The cells of a packet. -/
def pktF (p : Nat → Int) : List Value := [.int .u32 (p 0), .int .u32 (p 1), .int .i64 (p 2), .int .i64 (p 3), .int .u32 (p 4), .int .u32 (p 5), .int .u64 (p 6), .int .u64 (p 7), .int .i64 (p 8), .int .i64 (p 9), .int .u64 (p 10), .int .u32 (p 11), .int .u64 (p 12), .int .u32 (p 13), .int .u32 (p 14), .int .u32 (p 15), .int .i64 (p 16), .int .i64 (p 17), .int .i64 (p 18), .int .i64 (p 19), .int .u64 (p 20)]
def zeroP : Nat → Int := fun _ => 0
def setTTL (p : Nat → Int) (x : Int) : Nat → Int
  | 2 => x
  | i => p i
theorem hashE_nn (a b e v : Int) : 0 ≤ Sp11.hashE a b e v := by
  unfold Sp11.hashE
  simp only [List.foldl_cons, List.foldl_nil]
  generalize (Sp11.hstep _ (Sp11.by8 v 1)) = h
  unfold Sp11.hstep
  have : ∀ z : Int, IntKind.u64.wrap z = z % 18446744073709551616 := fun _ => rfl
  rw [this]; omega
/-- The node with a loopback address. -/
def nodeP (y : Int) : Int × Bool := if y ≤ 184483840 then (0, false) else if y > 184483872 then (0, false) else (y - 184483841, true)
theorem node_c {y : Int} {Q : Value → Mem → Nat → Prop} (hq : Q (.tuple ⟨[vi (nodeP y).1, .bool (nodeP y).2]⟩) m n) : Wc Try.prog fAddrNode [.int .u32 y] m n Q := by
  refine Wc_of mixed (cfg := xcfg) (fuel := 400) ?_
  rw [xAddrNode]
  unfold nodeP at hq
  by_cases h1 : y ≤ 184483840
  · rw [if_pos h1] at hq; exact condDT h1 hq
  · rw [if_neg h1] at hq
    refine condDF h1 ?_
    by_cases h2 : y > 184483872
    · rw [if_pos h2] at hq; exact condDT h2 hq
    · rw [if_neg h2] at hq
      refine condDF h2 ?_
      rw [u32_id (by omega) (by omega), wrap_id (x := y - 184483840) (by omega) (by omega), wrap_id (by omega) (by omega)]
      rw [show y - 184483840 - 1 = y - 184483841 by omega]
      exact hq
/-- What stands in Forward. -/
structure FwS (m : Mem) (b : Nat) (n fb : Nat) (p : Nat → Int) (nd : Int) (kn : Bool) : Prop where
  c0 : m.get b = some (.cells none tPfibFib 1 [pp fb])
  c1 : m.get (b + 1) = some (.cells none tApiPacket 21 (pktF p))
  c2 : m.get (b + 1 + 1) = some (.cells none tApiPacket 21 (pktF zeroP))
  c3 : m.get (b + 1 + 1 + 1) = some (.cells none tInt 1 [vi nd])
  c4 : m.get (b + 1 + 1 + 1 + 1) = some (.cells none tBool 1 [.bool kn])
  c5 : m.get (b + 1 + 1 + 1 + 1 + 1) = some (.cells none tFuncapiErrno 1 [.func (.func fFibFibForward1) ⟨[]⟩ ⟨[pp (b + 1 + 1 + 1 + 1), pp (b + 1 + 1 + 1), pp b]⟩, .func (.func fFibFibForward2) ⟨[]⟩ ⟨[pp (b + 1)]⟩, .func (.func fFibFibForward3) ⟨[]⟩ ⟨[pp b, pp (b + 1)]⟩])
  hn : b + 6 ≤ n
noncomputable abbrev fwFr (b : Nat) (i : Int) : AFrame := { fn := fFibFibForward, nt := 61, slots := [(2, pp b), (3, pp (b + 1)), (5, pp (b + 1 + 1)), (7, pp (b + 1 + 1 + 1)), (27, .slice (some ⟨b + 1 + 1 + 1 + 1 + 1, 0, none⟩) 3 3), (28, vi 3), (29, vi i)], todo := pt Try.prog fFibFibForward [1, 1, 1, 0, 1, 0, 0] }
theorem zero_all : (pktF zeroP).all cellOk = true := by simp [-Bool.exists_bool, pktF, cellOk]
theorem pkt_all : (pktF p).all cellOk = true := by simp [-Bool.exists_bool, pktF, cellOk]
theorem pkt_len : (pktF p).length = 21 := rfl
theorem fw_step (hw : FwS m b n fb p nd kn) {i : Nat} (hi : i < 3) {y : Nat} {caps : List Value} (hc : ([.func (.func fFibFibForward1) ⟨[]⟩ ⟨[pp (b + 1 + 1 + 1 + 1), pp (b + 1 + 1 + 1), pp b]⟩, .func (.func fFibFibForward2) ⟨[]⟩ ⟨[pp (b + 1)]⟩, .func (.func fFibFibForward3) ⟨[]⟩ ⟨[pp b, pp (b + 1)]⟩] : List Value)[i]? = some (.func (.func y) ⟨[]⟩ ⟨caps⟩))
    {e : Int} {n1 : Nat} (hn1 : n ≤ n1) (hy : Exact Try.prog y caps m n (vi e) m n1) :
    (e ≠ 0 → ∃ m', (∀ q, q ≠ b + 1 + 1 → m'.get q = m.get q) ∧ ∀ Q : Value → Mem → Nat → Prop, Q (.tuple ⟨[vi 0, .agg ⟨pktF zeroP⟩, vi e]⟩) m' n1 → W Try.prog (fwFr b i) m n Q) ∧
    (e = 0 → ∀ Q : Value → Mem → Nat → Prop, W Try.prog (fwFr b (i + 1 : Nat)) m n1 Q → W Try.prog (fwFr b i) m n Q) := by
  have hlive : liveAt m (b + 1 + 1 + 1 + 1 + 1) = true := by simp [-Bool.exists_bool, liveAt, hw.c5]
  have hrd : rd m (b + 1 + 1 + 1 + 1 + 1) (offOf 0 none + (i : Int).toNat * 1) = some (.func (.func y) ⟨[]⟩ ⟨caps⟩) := rd_of hw.c5 (by simpa [-Bool.exists_bool, offOf] using hc)
  constructor
  · intro he
    obtain ⟨m', e', g', k'⟩ := storeN (off := 0) (vs := pktF zeroP) hw.c2 (by simp [-Bool.exists_bool, pkt_len]) zero_all
    have g' : m'.get (b + 1 + 1) = some (.cells none tApiPacket 21 (pktF zeroP)) := by rw [g']; rfl
    refine ⟨m', k', fun Q hq => ?_⟩
    refine W_of mixed (cfg := xcfg) (fuel := 400) ?_
    rw [xFibFibForwardk0]
    refine condDT (by omega) ⟨⟨by omega, by omega, hlive, fun h => (h rfl).elim⟩, y, [], caps, hrd, ?_⟩
    simp only [List.nil_append]
    exact hy _ ⟨_, rfl, Later.mk (condNT he ⟨m', e', _, _, _, _, _, _, _, _, _, _, _, _, _, _, _, _, _, _, _, _, _, rds_of g', hq⟩)⟩
  · intro he Q hq
    subst he
    refine W_of mixed (cfg := xcfg) (fuel := 400) ?_
    rw [xFibFibForwardk0, wrapN (by omega)]
    refine condDT (by omega) ⟨⟨by omega, by omega, hlive, fun h => (h rfl).elim⟩, y, [], caps, hrd, ?_⟩
    simp only [List.nil_append]
    exact hy _ ⟨_, rfl, Later.mk (condNF rfl hq)⟩
theorem fw1 (hw : FwS m b n fb p nd kn) (h : FibS m n0 k fb s mp N me L rows ws) : Exact Try.prog fFibFibForward1 [pp (b + 1 + 1 + 1 + 1), pp (b + 1 + 1 + 1), pp b] m n (vi (if kn = true ∧ nd = me then 9 else 0)) m (n + 12) := by
  obtain ⟨la, ea, g1, g2, g3, g4⟩ := h.gs
  intro Q hq
  refine Wc_of mixed (cfg := xcfg) (fuel := 400) ?_
  rw [xFibFibForward1]
  refine ⟨_, rd_of hw.c4 rfl, ?_⟩
  cases kn with
  | false => rw [if_neg (by simp [-Bool.exists_bool])] at hq; exact condF rfl hq
  | true =>
    refine condT rfl ⟨_, rd_of hw.c3 rfl, _, rd_of hw.c0 rfl, isC_of h.gf, _, rd_of h.gf rfl, isC_of g1, _, rd_of g1 rfl, ?_⟩
    by_cases he : nd = me
    · rw [if_pos ⟨rfl, he⟩] at hq; exact condET he hq
    · rw [if_neg (fun e => he e.2)] at hq; exact condEF he hq
theorem fw2 (hw : FwS m b n fb p nd kn) : Exact Try.prog fFibFibForward2 [pp (b + 1)] m k (vi (if p 2 < 2 then 20 else 0)) m k := by
  intro Q hq
  refine Wc_of mixed (cfg := xcfg) (fuel := 400) ?_
  rw [xFibFibForward2]
  refine ⟨isC_of hw.c1, _, rd_of hw.c1 rfl, ?_⟩
  by_cases h : p 2 < 2
  · rw [if_pos h] at hq; exact condDT h hq
  · rw [if_neg h] at hq; exact condDF h hq
theorem fw3 (hw : FwS m b n fb p nd kn) (h : FibS m n0 n fb s mp N me L rows ws) (hk : n ≤ k) : ∃ x f, FindR rows (p 1) x f ∧ Exact Try.prog fFibFibForward3 [pp b, pp (b + 1)] m k (vi (if f = true then 0 else 13)) m (k + 12) := by
  obtain ⟨x, f, hf, run⟩ := find_x h (p 1) (k := k + 12) (by omega)
  refine ⟨x, f, hf, fun Q hq => ?_⟩
  refine Wc_of mixed (cfg := xcfg) (fuel := 400) ?_
  rw [xFibFibForward3]
  refine ⟨_, rd_of hw.c0 rfl, isC_of h.gf, _, rd_of h.gf rfl, isC_of hw.c1, _, rd_of hw.c1 rfl, _, _, _, _, run _ ⟨rfl, rfl, rfl⟩, Later.mk ⟨Nat.le_refl _, ?_⟩⟩
  cases f with
  | true => exact condF rfl hq
  | false => exact condT rfl hq
/-- What Forward answers. -/
def FwR (rows : List ERow) (ws : List WR) (me : Int) (p : Nat → Int) (link : Int) (q : Nat → Int) (e : Int) : Prop :=
  if (nodeP (p 1)).2 = true ∧ (nodeP (p 1)).1 = me then link = 0 ∧ q = zeroP ∧ e = 9
  else if p 2 < 2 then link = 0 ∧ q = zeroP ∧ e = 20
  else if ∀ r ∈ rows, r.dst ≠ p 1 then link = 0 ∧ q = zeroP ∧ e = 13
  else ∃ i, ∃ h : i < ws.length, p 1 = lo i ∧
    if (Sp11.pickP ws[i].M ws[i].B (Sp11.hashE (p 0) (p 1) (p 3) (p 4))).2 = true then link = (Sp11.pickP ws[i].M ws[i].B (Sp11.hashE (p 0) (p 1) (p 3) (p 4))).1 ∧ q = setTTL p (IntKind.i64.wrap (p 2 - 1)) ∧ e = 0
    else link = 0 ∧ q = zeroP ∧ e = 13
theorem fw_end (hw : FwS m b n fb p nd kn) (h : FibS m n0 n fb s mp N me L rows ws) {i : Nat} (hi : i < ws.length) (hnd : nd = i) (hap : ∀ r ∈ ws, True) :
    ∃ m' n' link q e, (if (Sp11.pickP ws[i].M ws[i].B (Sp11.hashE (p 0) (p 1) (p 3) (p 4))).2 = true then link = (Sp11.pickP ws[i].M ws[i].B (Sp11.hashE (p 0) (p 1) (p 3) (p 4))).1 ∧ q = setTTL p (IntKind.i64.wrap (p 2 - 1)) ∧ e = 0 else link = 0 ∧ q = zeroP ∧ e = 13) ∧
      n ≤ n' ∧ (∀ q, q ≠ b + 1 + 1 → q ≠ b + 1 → m'.get q = m.get q) ∧ ∀ Q : Value → Mem → Nat → Prop, Q (.tuple ⟨[vi link, .agg ⟨pktF q⟩, vi e]⟩) m' n' → W Try.prog (fwFr b 3) m n Q := by
  subst hnd
  obtain ⟨la, ea, g1, g2, g3, g4⟩ := h.gs
  have hwh := (h.whl _ (List.getElem_mem hi)).1
  have hw14 : Sp11.Whl m (n + 14) ws[i].w ws[i].s ws[i].b ws[i].M ws[i].B := hwh.le (Le.refl.up (by omega))
  have enter : ∀ (Q : Value → Mem → Nat → Prop) (K : Prop), K → True := fun _ _ _ => trivial
  cases hp : (Sp11.pickP ws[i].M ws[i].B (Sp11.hashE (p 0) (p 1) (p 3) (p 4))).2 with
  | false =>
    obtain ⟨m', e', g', k'⟩ := storeN (off := 0) (vs := pktF zeroP) hw.c2 (by simp [-Bool.exists_bool, pkt_len]) zero_all
    have g' : m'.get (b + 1 + 1) = some (.cells none tApiPacket 21 (pktF zeroP)) := by rw [g']; rfl
    refine ⟨m', n + 14, 0, zeroP, 13, by rw [if_neg (by simp [-Bool.exists_bool])]; exact ⟨rfl, rfl, rfl⟩, by omega, fun q h1 _ => k' q h1, fun Q hq => ?_⟩
    refine W_of mixed (cfg := xcfg) (fuel := 400) ?_
    rw [xFibFibForwardk0]
    refine condDF (by omega) ⟨_, rd_of hw.c0 rfl, isC_of h.gf, _, rd_of h.gf rfl, _, rd_of hw.c3 rfl, _, _, _, wheel_old h hi _ ⟨rfl, rfl, rfl⟩, Later.mk ⟨_, _, _, _, _, _, _, _, _, _, _, _, _, _, _, _, _, _, _, _, _, rds_of hw.c1, _, _, _, Sp11.hash_c ⟨rfl, rfl, rfl⟩, Later.mk ⟨_, _, _, _, Sp11.Pick_c hw14 (hashE_nn _ _ _ _) ⟨rfl, rfl, rfl⟩, Later.mk ⟨⟨_, _, _, _, _, _, _, _, _, _, _, _, _, _, _, _, _, _, _, _, _, rds_of hw.c1, rfl⟩, Nat.le_refl _, Nat.le_refl _, Nat.le_refl _, condT (by rw [hp]; rfl) ⟨m', e', _, _, _, _, _, _, _, _, _, _, _, _, _, _, _, _, _, _, _, _, _, rds_of g', hq⟩⟩⟩⟩⟩
  | true =>
    obtain ⟨m1, e1, g1', k1⟩ := storeN (off := 2) (vs := [vi (IntKind.i64.wrap (p 2 - 1))]) hw.c1 (by simp [-Bool.exists_bool, pkt_len]) (by simp [-Bool.exists_bool, cellOk])
    have g1' : m1.get (b + 1) = some (.cells none tApiPacket 21 (pktF (setTTL p (IntKind.i64.wrap (p 2 - 1))))) := by rw [g1']; rfl
    have c2 : m1.get (b + 1 + 1) = some (.cells none tApiPacket 21 (pktF zeroP)) := (k1 _ (by omega)).trans hw.c2
    obtain ⟨m2, e2, g2', k2⟩ := storeN (off := 0) (vs := pktF (setTTL p (IntKind.i64.wrap (p 2 - 1)))) c2 (by simp [-Bool.exists_bool, pkt_len]) pkt_all
    have g2' : m2.get (b + 1 + 1) = some (.cells none tApiPacket 21 (pktF (setTTL p (IntKind.i64.wrap (p 2 - 1))))) := by rw [g2']; rfl
    refine ⟨m2, n + 14 + 5, _, _, 0, by rw [if_pos rfl]; exact ⟨rfl, rfl, rfl⟩, by omega, fun q h1 h2 => (k2 q h1).trans (k1 q h2), fun Q hq => ?_⟩
    refine W_of mixed (cfg := xcfg) (fuel := 400) ?_
    rw [xFibFibForwardk0]
    refine condDF (by omega) ⟨_, rd_of hw.c0 rfl, isC_of h.gf, _, rd_of h.gf rfl, _, rd_of hw.c3 rfl, _, _, _, wheel_old h hi _ ⟨rfl, rfl, rfl⟩, Later.mk ⟨_, _, _, _, _, _, _, _, _, _, _, _, _, _, _, _, _, _, _, _, _, rds_of hw.c1, _, _, _, Sp11.hash_c ⟨rfl, rfl, rfl⟩, Later.mk ⟨_, _, _, _, Sp11.Pick_c hw14 (hashE_nn _ _ _ _) ⟨rfl, rfl, rfl⟩, Later.mk ⟨⟨_, _, _, _, _, _, _, _, _, _, _, _, _, _, _, _, _, _, _, _, _, rds_of hw.c1, rfl⟩, Nat.le_refl _, Nat.le_refl _, Nat.le_refl _, condF (by rw [hp]; rfl) ⟨isC_of hw.c1, _, rd_of hw.c1 rfl, isC_of hw.c1, m1, e1, _, _, _, _, _, _, _, _, _, _, _, _, _, _, _, _, _, _, _, _, _, rds_of g1', m2, e2, Nat.le_refl _, _, _, _, _, _, _, _, _, _, _, _, _, _, _, _, _, _, _, _, _, _, rds_of g2', hq⟩⟩⟩⟩⟩
end
end Go.Proofs.Ytiomjekkmjinbaa

set_option maxRecDepth 100000
namespace Go.Proofs.Ytiomjekkmjinbaa
open Go Go.Ab Spf
section
variable {m m' m0 : Mem} {n n' n0 fb s mp k b : Nat} {N me y nd : Int} {kn : Bool} {L : List Lk} {rows : List ERow} {ws : List WR} {p : Nat → Int}
theorem FwS.up (h : FwS m b n fb p nd kn) (k : n ≤ n') : FwS m b n' fb p nd kn := ⟨h.c0, h.c1, h.c2, h.c3, h.c4, h.c5, by have := h.hn; omega⟩
theorem fwd_loop (hw : FwS m b n fb p (nodeP (p 1)).1 (nodeP (p 1)).2) (h : FibS m n0 n fb s mp N me L rows ws) (hfound : ∀ r ∈ rows, ∃ i, i < ws.length ∧ r.dst = lo i ∧ i < 32) :
    ∃ m' n' link q e, FwR rows ws me p link q e ∧ n ≤ n' ∧ (∀ q, q ≠ b + 1 + 1 → q ≠ b + 1 → m'.get q = m.get q) ∧ ∀ Q : Value → Mem → Nat → Prop, Q (.tuple ⟨[vi link, .agg ⟨pktF q⟩, vi e]⟩) m' n' → W Try.prog (fwFr b 0) m n Q := by
  obtain ⟨s1, s1'⟩ := fw_step (i := 0) hw (by omega) rfl (n1 := n + 12) (by omega) (fw1 hw h)
  by_cases c1 : (nodeP (p 1)).2 = true ∧ (nodeP (p 1)).1 = me
  · obtain ⟨m', k', run⟩ := s1 (by rw [if_pos c1]; decide)
    refine ⟨m', n + 12, 0, zeroP, 9, by unfold FwR; rw [if_pos c1]; exact ⟨rfl, rfl, rfl⟩, by omega, fun q h1 _ => k' q h1, fun Q hq => run Q ?_⟩
    rw [if_pos c1]; exact hq
  have s1 := s1' (by rw [if_neg c1])
  have hw2 := hw.up (n' := n + 12) (by omega)
  obtain ⟨s2, s2'⟩ := fw_step (i := 1) hw2 (by omega) rfl (n1 := n + 12) (by omega) (fw2 hw2)
  by_cases c2 : p 2 < 2
  · obtain ⟨m', k', run⟩ := s2 (by rw [if_pos c2]; decide)
    refine ⟨m', n + 12, 0, zeroP, 20, by unfold FwR; rw [if_neg c1, if_pos c2]; exact ⟨rfl, rfl, rfl⟩, by omega, fun q h1 _ => k' q h1, fun Q hq => s1 Q (run Q ?_)⟩
    rw [if_pos c2]; exact hq
  have s2 := s2' (by rw [if_neg c2])
  obtain ⟨x, f, hf, run3⟩ := fw3 hw h (k := n + 12) (by omega)
  obtain ⟨s3, s3'⟩ := fw_step (i := 2) hw2 (by omega) rfl (n1 := n + 12 + 12) (by omega) run3
  cases f with
  | false =>
    unfold FindR at hf
    rw [if_neg (by simp [-Bool.exists_bool])] at hf
    obtain ⟨m', k', run⟩ := s3 (by simp [-Bool.exists_bool])
    refine ⟨m', n + 12 + 12, 0, zeroP, 13, by unfold FwR; rw [if_neg c1, if_neg c2, if_pos hf]; exact ⟨rfl, rfl, rfl⟩, by omega, fun q h1 _ => k' q h1, fun Q hq => s1 Q (s2 Q (run Q ?_))⟩
    simpa [-Bool.exists_bool] using hq
  | true =>
    unfold FindR at hf
    rw [if_pos rfl] at hf
    obtain ⟨j, hj, rfl, hd⟩ := hf
    have s3 := s3' (by simp [-Bool.exists_bool])
    obtain ⟨i, hi, hi2, hi3⟩ := hfound _ (List.getElem_mem hj)
    have hp1 : p 1 = lo i := by rw [← hd, hi2]
    have hnd : (nodeP (p 1)).1 = i := by
      rw [hp1]; unfold nodeP lo
      rw [if_neg (by omega), if_neg (by omega)]
      simp only; omega
    have hw3 := hw.up (n' := n + 12 + 12) (by omega)
    have h3 : FibS m n0 (n + 12 + 12) fb s mp N me L rows ws := h.le (Le.refl.up (by omega))
    obtain ⟨m', n', link, q, e, hr, hn', hk, run⟩ := fw_end hw3 h3 hi hnd (fun _ _ => trivial)
    refine ⟨m', n', link, q, e, ?_, by omega, hk, fun Q hq => s1 Q (s2 Q (s3 Q (run Q hq)))⟩
    unfold FwR
    rw [if_neg c1, if_neg c2, if_neg (fun hall => hall _ (List.getElem_mem hj) hd)]
    exact ⟨i, hi, hp1, hr⟩
theorem fwd_c (h : FibS m n0 n fb s mp N me L rows ws) (hfound : ∀ r ∈ rows, ∃ i, i < ws.length ∧ r.dst = lo i ∧ i < 32) :
    ∃ m' n' link q e, FwR rows ws me p link q e ∧ Le m n m' n' ∧ (Fs m n → Fs m' n') ∧ Exact Try.prog fFibFibForward [pp fb, .agg ⟨pktF p⟩] m n (.tuple ⟨[vi link, .agg ⟨pktF q⟩, vi e]⟩) m' n' := by
  generalize e1 : m.set n (.cells none tPfibFib 1 [pp fb]) = m1
  generalize e2 : m1.set (n + 1) (.cells none tApiPacket 21 (pktF p)) = m2
  generalize e3 : m2.set (n + 1 + 1) (.cells none tApiPacket 21 (pktF zeroP)) = m3
  generalize e4 : m3.set (n + 1 + 1 + 1) (.cells none tInt 1 [vi 0]) = m4
  generalize e5 : m4.set (n + 1 + 1 + 1 + 1) (.cells none tBool 1 [.bool false]) = m5
  obtain ⟨m6, e6, g6, k6⟩ := storeN (m := m5) (b := n + 1 + 1 + 1) (T := tInt) (sz := 1) (cs := [vi 0]) (off := 0) (vs := [vi (nodeP (p 1)).1]) (by rw [← e5, Tr.get_set, if_neg (by omega), ← e4]; simp [-Bool.exists_bool, Tr.get_set]) (by simp [-Bool.exists_bool]) (by simp [-Bool.exists_bool, cellOk])
  obtain ⟨m7, e7, g7, k7⟩ := storeN (m := m6) (b := n + 1 + 1 + 1 + 1) (T := tBool) (sz := 1) (cs := [.bool false]) (off := 0) (vs := [.bool (nodeP (p 1)).2]) (by rw [k6 _ (by omega), ← e5]; simp [-Bool.exists_bool, Tr.get_set]) (by simp [-Bool.exists_bool]) (by simp [-Bool.exists_bool, cellOk])
  generalize e8 : m7.set (n + 1 + 1 + 1 + 1 + 1) (.cells none tFuncapiErrno 1 [.func (.func fFibFibForward1) ⟨[]⟩ ⟨[pp (n + 1 + 1 + 1 + 1), pp (n + 1 + 1 + 1), pp n]⟩, .func (.func fFibFibForward2) ⟨[]⟩ ⟨[pp (n + 1)]⟩, .func (.func fFibFibForward3) ⟨[]⟩ ⟨[pp n, pp (n + 1)]⟩]) = m8
  have low : ∀ i, i ≠ n → i ≠ n + 1 → i ≠ n + 1 + 1 → i ≠ n + 1 + 1 + 1 → i ≠ n + 1 + 1 + 1 + 1 → i ≠ n + 1 + 1 + 1 + 1 + 1 → m8.get i = m.get i := fun i h0 h1 h2 h3 h4 h5 => by
    rw [← e8, Tr.get_set, if_neg (by omega), k7 i h4, k6 i h3, ← e5, Tr.get_set, if_neg (by omega), ← e4, Tr.get_set, if_neg (by omega), ← e3, Tr.get_set, if_neg (by omega), ← e2, Tr.get_set, if_neg (by omega), ← e1, Tr.get_set, if_neg (by omega)]
  have le8 : Le m n m8 (n + 1 + 1 + 1 + 1 + 1 + 1) := ⟨by omega, fun i hi => low i (by omega) (by omega) (by omega) (by omega) (by omega) (by omega)⟩
  have g0 : m3.get n = some (.cells none tPfibFib 1 [pp fb]) := by rw [← e3, Tr.get_set, if_neg (by omega), ← e2, Tr.get_set, if_neg (by omega), ← e1]; simp [-Bool.exists_bool, Tr.get_set]
  have g1 : m3.get (n + 1) = some (.cells none tApiPacket 21 (pktF p)) := by rw [← e3, Tr.get_set, if_neg (by omega), ← e2]; simp [-Bool.exists_bool, Tr.get_set]
  have up3 : ∀ i, i < n + 1 + 1 + 1 → m8.get i = m3.get i := fun i hi => by
    rw [← e8, Tr.get_set, if_neg (by omega), k7 i (by omega), k6 i (by omega), ← e5, Tr.get_set, if_neg (by omega), ← e4, Tr.get_set, if_neg (by omega)]
  have hw : FwS m8 n (n + 1 + 1 + 1 + 1 + 1 + 1) fb p (nodeP (p 1)).1 (nodeP (p 1)).2 := by
    refine ⟨(up3 _ (by omega)).trans g0, (up3 _ (by omega)).trans g1, ?_, ?_, ?_, ?_, by omega⟩
    · rw [up3 _ (by omega), ← e3]; simp [-Bool.exists_bool, Tr.get_set]
    · rw [← e8, Tr.get_set, if_neg (by omega), k7 _ (by omega), g6]; simp [-Bool.exists_bool]
    · rw [← e8, Tr.get_set, if_neg (by omega), g7]; simp [-Bool.exists_bool]
    · rw [← e8]; simp [-Bool.exists_bool, Tr.get_set]
  have le3 : Le m n m3 (n + 1 + 1 + 1) := ⟨by omega, fun i hi => by rw [← e3, Tr.get_set, if_neg (by omega), ← e2, Tr.get_set, if_neg (by omega), ← e1, Tr.get_set, if_neg (by omega)]⟩
  obtain ⟨m', n', link, q, e, hr, hn', hk, run⟩ := fwd_loop hw (h.le le8) hfound
  refine ⟨m', n', link, q, e, hr, ⟨by omega, fun i hi => by rw [hk i (by omega) (by omega)]; exact le8.same i hi⟩, fun hf i hi => by rw [hk i (by omega) (by omega), low i (by omega) (by omega) (by omega) (by omega) (by omega) (by omega)]; exact hf i (by omega), fun Q hq => ?_⟩
  refine Wc_of mixed (cfg := xcfg) (fuel := 400) ?_
  unfold pktF
  rw [xFibFibForward]
  refine memLet.mk fun ma ea => memLet.mk fun mb eb => memLet.mk fun mc ec => ?_
  have ea : ma = m1 := ea.trans e1
  subst ea
  have eb : mb = m2 := eb.trans e2
  subst eb
  have ec : mc = m3 := ec.trans e3
  subst ec
  refine ⟨_, rd_of g0 rfl, fvalid_c (h.le le3) ⟨_, rfl, Later.mk (condF rfl ⟨isC_of g1, _, rd_of g1 rfl, node_c ⟨_, _, rfl, Later.mk (memLet.mk fun md ed => memLet.mk fun me' ee => ?_)⟩⟩)⟩⟩
  have ed : md = m4 := ed.trans e4
  subst ed
  have ee : me' = m5 := ee.trans e5
  subst ee
  refine ⟨m6, e6, m7, e7, memLet.mk fun mf ef => ?_⟩
  have ef : mf = m8 := ef.trans e8
  subst ef
  exact run Q hq
end
end Go.Proofs.Ytiomjekkmjinbaa

set_option maxRecDepth 100000
namespace Go.Proofs.Ytiomjekkmjinbaa
open Go Go.Ab Spf
section
variable {m m' m0 : Mem} {n n' n0 : Nat}
/-- The chapter's square. -/
def sqL : List Lk := [⟨0, 2, 1⟩, ⟨0, 3, 1⟩, ⟨1, 2, 1⟩, ⟨1, 3, 1⟩]
theorem square_loop {m0 : Mem} {n0 lb : Nat} {down : List Int} {da : Option Addr} {dc : Nat} (hd : Sl m0 n0 da dc (down.map vi)) (hdl : down.length ≤ 1000) :
    ∀ (k i : Nat) (m : Mem), i + k = 4 → (∀ j, j ≠ n0 + 1 → m.get j = if j = n0 then some (.cells none tApiLink 3 (sqL.flatMap encL)) else m0.get j) → m.get (n0 + 1) = some (.cells none tBool 1 ((upU down i ++ List.replicate k false).map Value.bool)) →
    ∃ m', (∀ j, j ≠ n0 + 1 → m'.get j = if j = n0 then some (.cells none tApiLink 3 (sqL.flatMap encL)) else m0.get j) ∧ m'.get (n0 + 1) = some (.cells none tBool 1 ((upU down 4).map Value.bool)) ∧ ∀ Q : Value → Mem → Nat → Prop, Q (.tuple ⟨[.slice (some ⟨n0, 0, none⟩) 4 4, .slice (some ⟨n0 + 1, 0, none⟩) 4 4]⟩) m' (n0 + 2) →
      W Try.prog { fn := fLaw14square, nt := 26, slots := [(0, .slice da down.length dc), (4, .slice (some ⟨n0, 0, none⟩) 4 4), (5, .slice (some ⟨n0 + 1, 0, none⟩) 4 4), (6, vi i)], todo := pt Try.prog fLaw14square [1, 1, 1, 0, 1, 0, 0] } m (n0 + 2) Q := by
  intro k
  induction k with
  | zero =>
    intro i m h h1 h2
    have : i = 4 := by omega
    subst this
    refine ⟨m, h1, by simpa [-Bool.exists_bool] using h2, fun Q hq => ?_⟩
    refine W_of mixed (cfg := xcfg) (fuel := 400) ?_
    rw [xLaw14squarek0]
    exact condDF (by omega) hq
  | succ k ih =>
    intro i m h h1 h2
    have hul : (upU down i).length = i := by simp [-Bool.exists_bool, upU]
    obtain ⟨m1, e1, g1, k1⟩ := storeN (off := i) (vs := [.bool (!down.contains (i : Int))]) h2 (by simp [-Bool.exists_bool, hul]) (by simp [-Bool.exists_bool, cellOk])
    have hd' : Sl m (n0 + 2) da dc (down.map vi) := hd.same (by omega) fun b o s e => by
      have := hd.lt e
      rw [h1 b (by omega), if_neg (by omega)]
    obtain ⟨m', r1, r2, run⟩ := ih (i + 1) m1 (by omega) (fun j hj => by rw [k1 j hj]; exact h1 j hj) (by
      rw [g1, upU_succ]
      congr 2
      rw [List.map_append, List.take_append_of_le_length (by simp [-Bool.exists_bool, hul]), List.take_of_length_le (by simp [-Bool.exists_bool, hul]), List.drop_append, List.drop_of_length_le (by simp [-Bool.exists_bool, hul])]
      simp [-Bool.exists_bool, hul])
    refine ⟨m', r1, r2, fun Q hq => ?_⟩
    have fin := run Q hq
    rw [← wrapN (k := i) (by omega)] at fin
    refine W_of mixed (cfg := xcfg) (fuel := 400) ?_
    rw [xLaw14squarek0]
    refine condDT (by omega) (has_c rfl hd' hdl ⟨_, rfl, Later.mk ⟨⟨by omega, by omega, by simp [-Bool.exists_bool, liveAt, h2], fun h => (h rfl).elim⟩, m1, ?_, fin⟩⟩)
    simpa [-Bool.exists_bool, offOf] using e1
theorem square_c {down : List Int} {da : Option Addr} {dl dc : Nat} (e : down.length = dl) (hd : Sl m n da dc (down.map vi)) (hdl : down.length ≤ 1000) :
    ∃ m', m'.get n = some (.cells none tApiLink 3 (sqL.flatMap encL)) ∧ m'.get (n + 1) = some (.cells none tBool 1 ((upU down 4).map Value.bool)) ∧ Le m n m' (n + 2) ∧ (Fs m n → Fs m' (n + 2)) ∧ Exact Try.prog fLaw14square [.slice da dl dc] m n (.tuple ⟨[.slice (some ⟨n, 0, none⟩) 4 4, .slice (some ⟨n + 1, 0, none⟩) 4 4]⟩) m' (n + 2) := by
  subst e
  generalize e1 : m.set n (.cells none tApiLink 3 (sqL.flatMap encL)) = m1
  generalize e2 : m1.set (n + 1) (.cells none tBool 1 [.bool false, .bool false, .bool false, .bool false]) = m2
  obtain ⟨m', r1, r2, run⟩ := square_loop (lb := 0) hd hdl 4 0 m2 rfl (fun j hj => by
    rw [← e2, Tr.get_set, if_neg (by omega), ← e1, Tr.get_set]
    by_cases h : n = j
    · rw [if_pos h, if_pos h.symm]
    · rw [if_neg h, if_neg (fun e => h e.symm)]) (by rw [← e2]; simp [-Bool.exists_bool, Tr.get_set, upU])
  refine ⟨m', by rw [r1 n (by omega), if_pos rfl], r2, ⟨by omega, fun i hi => by rw [r1 i (by omega), if_neg (by omega)]⟩, fun hf i hi => by rw [r1 i (by omega), if_neg (by omega)]; exact hf i (by omega), fun Q hq => ?_⟩
  refine Wc_of mixed (cfg := xcfg) (fuel := 400) ?_
  rw [xLaw14square]
  refine memLet.mk fun ma ea => ⟨by omega, memLet.mk fun mb eb => ?_⟩
  have ea : ma = m1 := ea.trans e1
  subst ea
  have eb : mb = m2 := eb.trans e2
  subst eb
  exact run Q hq
/-- What a list of entries holds for an address. -/
def lookK (E : List (Int × List Int)) (y : Int) : List Int := match E.find? (fun r => decide (r.1 = y)) with
  | some r => r.2
  | none => []
theorem lookP_key {rows : List ERow} {y : Int} : lookP rows y = lookK (rows.map ERow.key) y := by
  unfold lookP lookK
  rw [List.find?_map]
  show _ = (match (rows.find? (fun r => decide (r.dst = y))).map ERow.key with | some r => r.2 | none => [])
  cases rows.find? (fun r => decide (r.dst = y)) <;> rfl
abbrev UT : List Bool := [true, true, true, true]
abbrev UC : List Bool := [false, true, true, true]
def E1 : List (Int × List Int) := [(lo 1, [0, 1]), (lo 2, [0]), (lo 3, [1])]
def E2 : List (Int × List Int) := [(lo 1, [1]), (lo 2, [1]), (lo 3, [1])]
theorem of_one : OfR 4 sqL UT 0 E1 := by
  unfold OfR
  rw [if_pos (by decide)]
  have a0 : NextR 4 sqL UT 0 0 [] := nextR_of [0, 2, 1, 1] (by decide) (by decide) (by decide)
  have a1 : NextR 4 sqL UT 0 1 [0, 1] := nextR_of [2, 0, 1, 1] (by decide) (by decide) (by decide)
  have a2 : NextR 4 sqL UT 0 2 [0] := nextR_of [1, 1, 0, 2] (by decide) (by decide) (by decide)
  have a3 : NextR 4 sqL UT 0 3 [1] := nextR_of [1, 1, 2, 0] (by decide) (by decide) (by decide)
  exact (((OfL.nil (k := 0) rfl a0).cons (k := 1) a1 (by simp [-Bool.exists_bool])).cons (k := 2) a2 (by simp [-Bool.exists_bool])).cons (k := 3) a3 (by simp [-Bool.exists_bool])
theorem of_two : OfR 4 sqL UC 0 E2 := by
  unfold OfR
  rw [if_pos (by decide)]
  have a0 : NextR 4 sqL UC 0 0 [] := nextR_of [0, 2, 3, 1] (by decide) (by decide) (by decide)
  have a1 : NextR 4 sqL UC 0 1 [1] := nextR_of [2, 0, 1, 1] (by decide) (by decide) (by decide)
  have a2 : NextR 4 sqL UC 0 2 [1] := nextR_of [3, 1, 0, 2] (by decide) (by decide) (by decide)
  have a3 : NextR 4 sqL UC 0 3 [1] := nextR_of [1, 1, 2, 0] (by decide) (by decide) (by decide)
  exact (((OfL.nil (k := 0) rfl a0).cons (k := 1) a1 (by simp [-Bool.exists_bool])).cons (k := 2) a2 (by simp [-Bool.exists_bool])).cons (k := 3) a3 (by simp [-Bool.exists_bool])
theorem wheel_zero : (Sp.setF ([0].take 64) [] (List.replicate 64 (-1))).2 = ([0], List.replicate 64 0) := by kernel_rfl
theorem pick_zero {h : Int} : Sp11.pickP [0] (List.replicate 64 0) h = (0, true) := by
  unfold Sp11.pickP
  rw [if_neg (by simp [-Bool.exists_bool])]
  congr 1
  rw [List.getD_eq_getElem?_getD, List.getElem?_replicate]
  split <;> rfl
end
end Go.Proofs.Ytiomjekkmjinbaa

set_option maxRecDepth 100000
namespace Go.Proofs.Ytiomjekkmjinbaa
open Go Go.Ab Spf
section
variable {m m' m0 : Mem} {n n' n0 : Nat}
theorem sl_lit {T sz k c : Nat} {cs : List Value} (g : m.get k = some (.cells none T sz cs)) (hk : k < n) : Sl m n (some ⟨k, 0, none⟩) c cs :=
  .inr ⟨k, 0, none, cs, rfl, hk, by simp [-Bool.exists_bool, cellsOf, g], fun _ => ⟨by simp [-Bool.exists_bool, liveAt, g], fun h => (h rfl).elim, by simp [-Bool.exists_bool, nilAt, g]⟩, by simp [-Bool.exists_bool, offOf], by simp [-Bool.exists_bool, offOf]⟩
theorem cmp3 {A : List ERow} {aa : Option Addr} {al ac : Nat} {X1 X2 X3 : List Int} (e1 : A.length = al) (hA : Sl m n aa ac (A.flatMap encE)) (eA : EntS m n A) (hk : A.map ERow.key = [(lo 1, X1), (lo 2, X2), (lo 3, X3)]) (h1 : X1.length ≤ 1000) (h2 : X2.length ≤ 1000) (h3 : X3.length ≤ 1000)
    {K : Bool → Mem → Nat → Prop} (hq : ∀ m' n', Le m n m' n' → (Fs m n → Fs m' n') → K true m' n') :
    Wc Try.prog fLaw14loop [vi 1] m n fun v25 m26 k27 => ∃ x28 : Int, v25 = .int .u32 x28 ∧ Later (memLet (m26.set k27 (.cells none tInt 1 (X1.map vi))) fun m29 => Wc Try.prog fLaw14loop [vi 2] m29 (k27 + 1) fun v30 m31 k32 => ∃ x33 : Int, v30 = .int .u32 x33 ∧ Later (memLet (m31.set k32 (.cells none tInt 1 (X2.map vi))) fun m34 => Wc Try.prog fLaw14loop [vi 3] m34 (k32 + 1) fun v35 m36 k37 =>
      ∃ x38 : Int, v35 = .int .u32 x38 ∧ Later (memLet (m36.set k37 (.cells none tInt 1 (X3.map vi))) fun m39 => memLet (m39.set (k37 + 1) (.cells none tApiEntry 2 [.int .u32 x28, .slice (some ⟨k27, 0, none⟩) X1.length X1.length, .int .u32 x33, .slice (some ⟨k32, 0, none⟩) X2.length X2.length, .int .u32 x38, .slice (some ⟨k37, 0, none⟩) X3.length X3.length])) fun m40 =>
        Wc Try.prog fLaw14entries [.slice aa al ac, .slice (some ⟨k37 + 1, 0, none⟩) 3 3] m40 (k37 + 1 + 1) fun v41 m42 k43 => ∃ b44 : Bool, v41 = .bool b44 ∧ Later (K b44 m42 k43)))) := by
  refine loop_c (by omega) (by omega) ⟨_, rfl, Later.mk (memLet.mk fun m1 q1 => loop_c (by omega) (by omega) ⟨_, rfl, Later.mk (memLet.mk fun m2 q2 => loop_c (by omega) (by omega) ⟨_, rfl, Later.mk (memLet.mk fun m3 q3 => memLet.mk fun m4 q4 => ?_)⟩)⟩)⟩
  have low : ∀ i, i < n → m4.get i = m.get i := fun i hi => by rw [q4, Tr.get_set, if_neg (by omega), q3, Tr.get_set, if_neg (by omega), q2, Tr.get_set, if_neg (by omega), q1, Tr.get_set, if_neg (by omega)]
  have g1 : m4.get n = some (.cells none tInt 1 (X1.map vi)) := by rw [q4, Tr.get_set, if_neg (by omega), q3, Tr.get_set, if_neg (by omega), q2, Tr.get_set, if_neg (by omega), q1]; simp [-Bool.exists_bool, Tr.get_set]
  have g2 : m4.get (n + 1) = some (.cells none tInt 1 (X2.map vi)) := by rw [q4, Tr.get_set, if_neg (by omega), q3, Tr.get_set, if_neg (by omega), q2]; simp [-Bool.exists_bool, Tr.get_set]
  have g3 : m4.get (n + 1 + 1) = some (.cells none tInt 1 (X3.map vi)) := by rw [q4, Tr.get_set, if_neg (by omega), q3]; simp [-Bool.exists_bool, Tr.get_set]
  have g4 : m4.get (n + 1 + 1 + 1) = some (.cells none tApiEntry 2 (([⟨lo 1, some ⟨n, 0, none⟩, X1⟩, ⟨lo 2, some ⟨n + 1, 0, none⟩, X2⟩, ⟨lo 3, some ⟨n + 1 + 1, 0, none⟩, X3⟩] : List ERow).flatMap encE)) := by rw [q4]; simp [-Bool.exists_bool, Tr.get_set, encE]
  have le4 : Le m n m4 (n + 1 + 1 + 1 + 1) := ⟨by omega, low⟩
  refine entries_c (A := A) (B := [⟨lo 1, some ⟨n, 0, none⟩, X1⟩, ⟨lo 2, some ⟨n + 1, 0, none⟩, X2⟩, ⟨lo 3, some ⟨n + 1 + 1, 0, none⟩, X3⟩]) e1 rfl (hA.le le4) (sl_lit g4 (by omega)) (eA.le le4) ?_ ?_ ⟨_, rfl, Later.mk ?_⟩
  · intro r hr
    simp only [List.mem_cons, List.not_mem_nil, or_false] at hr
    rcases hr with rfl | rfl | rfl
    · exact ⟨sl_lit g1 (by omega), by simp only; omega⟩
    · exact ⟨sl_lit g2 (by omega), by simp only; omega⟩
    · exact ⟨sl_lit g3 (by omega), by simp only; omega⟩
  · have := congrArg List.length hk
    simp [-Bool.exists_bool] at this; omega
  · rw [hk]
    have : (([(lo 1, X1), (lo 2, X2), (lo 3, X3)] : List (Int × List Int)) = List.map ERow.key [⟨lo 1, some ⟨n, 0, none⟩, X1⟩, ⟨lo 2, some ⟨n + 1, 0, none⟩, X2⟩, ⟨lo 3, some ⟨n + 1 + 1, 0, none⟩, X3⟩]) := rfl
    rw [decide_eq_true this]
    refine hq m4 _ le4 fun hf i hi => ?_
    rw [q4, Tr.get_set, if_neg (by omega), q3, Tr.get_set, if_neg (by omega), q2, Tr.get_set, if_neg (by omega), q1, Tr.get_set, if_neg (by omega)]; exact hf i (by omega)
theorem key_mem {R : List ERow} {E : List (Int × List Int)} (h : R.map ERow.key = E) {y : Int} {X : List Int} (he : (y, X) ∈ E) : ∃ r ∈ R, r.dst = y := by
  rw [← h] at he
  obtain ⟨r, hr, e⟩ := List.mem_map.1 he
  exact ⟨r, hr, congrArg Prod.fst e⟩
theorem OfL.nodes {N f : Int} {L : List Lk} {U : List Bool} : ∀ {k : Nat} {E : List (Int × List Int)}, OfL N L U f k E → ∀ e ∈ E, ∃ i : Nat, i < k ∧ e.1 = lo i
  | 0, _, h, e, he => by rw [h] at he; cases he
  | k + 1, _, ⟨E, D, h1, h2, h3⟩, e, he => by
    rw [h3] at he
    split at he
    · obtain ⟨i, hi, h⟩ := h1.nodes e he
      exact ⟨i, by omega, h⟩
    · rcases List.mem_append.1 he with he | he
      · obtain ⟨i, hi, h⟩ := h1.nodes e he
        exact ⟨i, by omega, h⟩
      · rw [List.mem_singleton.1 he]; exact ⟨k, by omega, rfl⟩
theorem OfR.found {N me : Int} {L : List Lk} {U : List Bool} {R : List ERow} {ws : List WR} (hN : N ≤ 32) (hws : N.toNat ≤ ws.length) (h : OfR N L U me (R.map ERow.key)) : ∀ r ∈ R, ∃ i, i < ws.length ∧ r.dst = lo i ∧ i < 32 := fun r hr => by
  unfold OfR at h
  split at h
  · obtain ⟨i, hi, e⟩ := h.nodes _ (List.mem_map_of_mem hr)
    exact ⟨i, by omega, e, by omega⟩
  · have : R = [] := by simpa [-Bool.exists_bool] using h
    subst this; cases hr
end
end Go.Proofs.Ytiomjekkmjinbaa

set_option maxRecDepth 100000
namespace Go.Proofs.Ytiomjekkmjinbaa
open Go Go.Ab Spf
section
variable {m m' m0 : Mem} {n n' n0 : Nat}
theorem lookK_e1 : lookK E1 (lo ((2 : Nat) : Int)) = [0] := by decide
theorem node2 : nodeP (lo 2) = (2, true) := by decide
theorem nodes_ok {R : List ERow} {ws0 ws : List WR} {fb s mp n1 : Nat} (u : UpR m n m' n0 n1 fb s mp 4 0 sqL UT R ws0 ws) (h0 : ws0 = []) : ∃ h : 2 < ws.length, ws[2].M = [0] ∧ ws[2].B = List.replicate 64 0 := by
  subst h0
  have hlen := u.len
  have h2 : 2 < ws.length := by rw [hlen]; decide
  refine ⟨h2, ?_⟩
  have hv := u.val 2 h2 (by decide)
  rw [lookP_key, u.of.uniq of_one, lookK_e1] at hv
  have : oldMB [] 2 = ([], List.replicate 64 (-1)) := rfl
  rw [this] at hv
  rw [wheel_zero] at hv
  exact ⟨congrArg Prod.fst hv, congrArg Prod.snd hv⟩
def awP : Nat → Int
  | 1 => lo 2
  | 2 => 9
  | _ => 0
theorem awake_run (hf : Fs m n) {Q : Value → Mem → Nat → Prop} (hq : ∀ m' n', Q (.bool true) m' n') : Wc Try.prog fLaw14awake [] m n Q := by
  refine Wc_of mixed (cfg := xcfg) (fuel := 400) ?_
  rw [xLaw14awake]
  refine W_of1 mixed (cfg := xcfg) (fuel := 400) ?_
  rw [xLaw14awakek0]
  obtain ⟨m1, l1, u1, le1, fs1, run1⟩ := square_c (m := m) (n := n) (down := []) (da := none) (dl := 0) (dc := 0) rfl Sl.nil (by simp [-Bool.exists_bool])
  refine run1 _ ⟨_, _, _, _, _, _, rfl, Later.mk (memLet.mk fun m2 e2 => ?_)⟩
  have le2 : Le m1 (n + 2) m2 (n + 2 + 1) := by rw [e2]; exact Le.new
  have g2 : m2.get (n + 2) = some (.cells none tInt 1 ([(0 : Int)].map vi)) := by rw [e2]; simp [-Bool.exists_bool, Tr.get_set]
  have f2 : Fs m2 (n + 2 + 1) := by rw [e2]; exact (fs1 hf).set
  obtain ⟨m3, l3, u3, le3, fs3, run3⟩ := square_c (m := m2) (n := n + 2 + 1) (down := [0]) (da := some ⟨n + 2, 0, none⟩) (dl := 1) (dc := 1) rfl (sl_lit g2 (by omega)) (by simp [-Bool.exists_bool])
  refine run3 _ ⟨_, _, _, _, _, _, rfl, Later.mk ?_⟩
  have f3 := fs3 f2
  have hL : Sl m3 (n + 2 + 1 + 2) (some ⟨n, 0, none⟩) 4 (sqL.flatMap encL) := (sl_lit (n := n + 2) l1 (by omega)).le (le2.trans le3)
  have hU : Sl m3 (n + 2 + 1 + 2) (some ⟨n + 1, 0, none⟩) 4 (UT.map Value.bool) := (sl_lit (n := n + 2) u1 (by omega)).le (le2.trans le3)
  have hC : Sl m3 (n + 2 + 1 + 2) (some ⟨n + 2 + 1 + 1, 0, none⟩) 4 (UC.map Value.bool) := sl_lit u3 (by omega)
  generalize n + 2 + 1 + 2 = n3 at hL hU hC f3 ⊢
  have hlt : n + 1 < n3 ∨ True := .inr trivial
  obtain ⟨m4, n4, a4, R1, hR1, ow4, ent4, le4, fs4, run4⟩ := of_c (N := 4) (f := 0) (L := sqL) (U := UT) (ll := 4) (ul := 4) rfl rfl hL hU
  refine run4 _ ⟨_, _, _, rfl, Later.mk ?_⟩
  have k1 := hR1.uniq of_one
  refine cmp3 (A := R1) (X1 := [0, 1]) (X2 := [0]) (X3 := [1]) rfl ow4.sl (ent4.s hR1.rows) k1 (by simp [-Bool.exists_bool]) (by simp [-Bool.exists_bool]) (by simp [-Bool.exists_bool]) fun m5 n5 le5 fs5 => ?_
  obtain ⟨m6, n6, a6, R2, hR2, ow6, ent6, le6, fs6, run6⟩ := of_c (N := 4) (f := 0) (L := sqL) (U := UC) (ll := 4) (ul := 4) rfl rfl ((hL.le le4).le le5) ((hC.le le4).le le5)
  refine run6 _ ⟨_, _, _, rfl, Later.mk ?_⟩
  have k2 := hR2.uniq of_two
  refine cmp3 (A := R2) (X1 := [1]) (X2 := [1]) (X3 := [1]) rfl ow6.sl (ent6.s hR2.rows) k2 (by simp [-Bool.exists_bool]) (by simp [-Bool.exists_bool]) (by simp [-Bool.exists_bool]) fun m7 n7 le7 fs7 => ?_
  have le37 := ((le4.trans le5).trans le6).trans le7
  have f7 : Fs m7 n7 := fs7 (fs6 (fs5 (fs4 f3)))
  obtain ⟨m8, n8, fb, s, mp, fib8, le8, fs8, run8⟩ := fnew_c (N := 4) (me := 0) (L := sqL) (hL.le le37) (by decide) (by omega) (by omega)
  refine run8 _ ⟨_, _, rfl, Later.mk (condNF rfl (condF rfl ?_))⟩
  have hU8 := (hU.le le37).le le8
  obtain ⟨m9, n9, R, ws, u9, run9⟩ := update_c (U := UT) (ul := 4) fib8 (fs8 f7) le8.le (by omega) (by omega) rfl hU8 rfl (fun o s' e => by
    have h1 := fib8.lo.2.1
    have h2 := (hU.le le37).lt e
    omega)
  refine run9 _ ⟨_, rfl, Later.mk (condNF rfl (loop_c (by omega) (by omega) ⟨_, rfl, Later.mk ?_⟩))⟩
  obtain ⟨hw2, hM, hB⟩ := nodes_ok u9 rfl
  obtain ⟨m10, n10, link, q, e, hr, le10, fs10, run10⟩ := fwd_c (p := awP) u9.fib (u9.of.found (by omega) (by rw [u9.len]; decide))
  have hrr : link = 0 ∧ q = setTTL awP (IntKind.i64.wrap (awP 2 - 1)) ∧ e = 0 := by
    unfold FwR at hr
    rw [if_neg (by rw [show awP 1 = lo 2 from rfl, node2]; decide), if_neg (by decide), if_neg (fun hall => by
      obtain ⟨r, hr, hd⟩ := key_mem (u9.of.uniq of_one) (y := lo 2) (X := [0]) (by simp [-Bool.exists_bool, E1])
      exact hall r hr hd)] at hr
    obtain ⟨i, hi, h1, h2⟩ := hr
    have : i = 2 := by
      have : lo 2 = lo (i : Int) := h1
      unfold lo at this; omega
    subst this
    rw [hM, hB, pick_zero, if_pos rfl] at h2
    exact h2
  obtain ⟨rfl, rfl, rfl⟩ := hrr
  refine run10 _ ⟨_, _, _, _, _, _, _, _, _, _, _, _, _, _, _, _, _, _, _, _, _, _, _, rfl, Later.mk (memLet.mk fun m11 e11 => ?_)⟩
  obtain ⟨m12, e12, g12, k12⟩ := storeN (m := m11) (b := n10) (T := tApiPacket) (sz := 21) (cs := pktF zeroP) (off := 0) (vs := pktF (setTTL awP (IntKind.i64.wrap (awP 2 - 1)))) (by rw [e11]; simp [-Bool.exists_bool, Tr.get_set]; rfl) (by simp [-Bool.exists_bool, pkt_len]) pkt_all
  have g12 : m12.get n10 = some (.cells none tApiPacket 21 (pktF (setTTL awP (IntKind.i64.wrap (awP 2 - 1))))) := by rw [g12]; rfl
  refine ⟨m12, e12, condT rfl (condT rfl (condET rfl ⟨_, _, _, _, _, _, _, _, _, _, _, _, _, _, _, _, _, _, _, _, _, rds_of g12, _, _, _, loop_c (by omega) (by omega) ⟨rfl, rfl, rfl⟩, Later.mk (condT (by decide) ⟨⟨_, _, _, _, _, _, _, _, _, _, _, _, _, _, _, _, _, _, _, _, _, rds_of g12, rfl⟩, Nat.le_refl _, hq _ _⟩)⟩))⟩
theorem awake_c {Q : Value → Mem → Nat → Prop} (hq : Q (.bool true) m n) : Wc Try.prog fLaw14awake [] m n Q :=
  Wc.closed (R := fun v => v = .bool true) rfl (awake_run (m := .leaf) (n := 0) (fun i _ => by simp [-Bool.exists_bool, Tr.get]) fun _ _ => ⟨rfl, rfl⟩) fun v hv => by subst hv; exact hq
end
end Go.Proofs.Ytiomjekkmjinbaa
