/- WA: what parts of the program compute; helper of the claim. -/
import Derived.Test.YtiomjekkmjinbaaAb43
import Derived.Test.YtiomjekkmjinbaaE14b
set_option maxRecDepth 100000
/- Heaps of numbered nodes, as lists. -/
namespace Spf

def at' (T : List (Int × Int)) (i : Nat) : Int × Int := (T[i]?).getD (0, 0)
def ke (T : List (Int × Int)) (i : Nat) : Int := (at' T i).2
def swap (T : List (Int × Int)) (i j : Nat) : List (Int × Int) := (T.set i (at' T j)).set j (at' T i)
@[simp] theorem swap_length {T : List (Int × Int)} {i j : Nat} : (swap T i j).length = T.length := by simp [-Bool.exists_bool, swap]
theorem at_swap {T : List (Int × Int)} {i j : Nat} (hi : i < T.length) (hj : j < T.length) (k : Nat) : at' (swap T i j) k = if k = j then at' T i else if k = i then at' T j else at' T k := by
  unfold swap at'
  rw [List.getElem?_set, List.getElem?_set]
  by_cases h1 : j = k
  · subst h1; simp [-Bool.exists_bool, hj]
  · by_cases h2 : i = k
    · subst h2; simp [-Bool.exists_bool, h1, hi, Ne.symm h1]
    · simp [-Bool.exists_bool, h1, h2, Ne.symm h1, Ne.symm h2]
theorem ke_swap {T : List (Int × Int)} {i j : Nat} (hi : i < T.length) (hj : j < T.length) (k : Nat) : ke (swap T i j) k = if k = j then ke T i else if k = i then ke T j else ke T k := by
  unfold ke
  rw [at_swap hi hj]
  split
  · rfl
  · split <;> rfl
theorem mem_at {T : List (Int × Int)} {e : Int × Int} : e ∈ T ↔ ∃ i, i < T.length ∧ at' T i = e := by
  constructor
  · intro h
    obtain ⟨i, hi, h⟩ := List.mem_iff_getElem.1 h
    exact ⟨i, hi, by simp [-Bool.exists_bool, at', hi, h]⟩
  · rintro ⟨i, hi, h⟩
    have : at' T i = T[i] := by simp [-Bool.exists_bool, at', hi]
    rw [← h, this]; exact List.getElem_mem hi
theorem mem_swap {T : List (Int × Int)} {i j : Nat} (hi : i < T.length) (hj : j < T.length) {e : Int × Int} : e ∈ swap T i j ↔ e ∈ T := by
  rw [mem_at, mem_at]
  constructor
  · rintro ⟨k, hk, h⟩
    rw [at_swap hi hj] at h
    split at h
    · exact ⟨i, hi, h⟩
    · split at h
      · exact ⟨j, hj, h⟩
      · exact ⟨k, by simpa [-Bool.exists_bool] using hk, h⟩
  · rintro ⟨k, hk, h⟩
    by_cases h1 : k = i
    · subst h1
      exact ⟨j, by simpa [-Bool.exists_bool] using hj, by rw [at_swap hi hj, if_pos rfl]; exact h⟩
    · by_cases h2 : k = j
      · subst h2
        exact ⟨i, by simpa [-Bool.exists_bool] using hi, by rw [at_swap hi hj, if_neg (Ne.symm h1), if_pos rfl]; exact h⟩
      · exact ⟨k, by simpa [-Bool.exists_bool] using hk, by rw [at_swap hi hj, if_neg h2, if_neg h1]; exact h⟩

def Heap (T : List (Int × Int)) : Prop := ∀ i, 0 < i → i < T.length → ke T ((i - 1) / 2) ≤ ke T i
structure HeapU (T : List (Int × Int)) (j : Nat) : Prop where
  one : ∀ i, 0 < i → i < T.length → i ≠ j → ke T ((i - 1) / 2) ≤ ke T i
  two : ∀ i, 0 < i → i < T.length → (i - 1) / 2 = j → 0 < j → ke T ((j - 1) / 2) ≤ ke T i
theorem HeapU.step {T : List (Int × Int)} {j : Nat} (h : HeapU T j) (h0 : 0 < j) (hj : j < T.length) (hl : ke T j < ke T ((j - 1) / 2)) : HeapU (swap T ((j - 1) / 2) j) ((j - 1) / 2) := by
  have hp : (j - 1) / 2 < T.length := by omega
  refine ⟨fun i hi hl' hne => ?_, fun i hi hl' he hpos => ?_⟩
  · rw [swap_length] at hl'
    rw [ke_swap hp hj, ke_swap hp hj]
    by_cases hij : i = j
    · subst hij
      rw [if_pos rfl, if_neg (by omega), if_pos rfl]; omega
    · rw [if_neg hij, if_neg hne]
      by_cases h1 : (i - 1) / 2 = j
      · rw [if_pos h1]; exact h.two i hi hl' h1 h0
      · rw [if_neg h1]
        by_cases h2 : (i - 1) / 2 = (j - 1) / 2
        · rw [if_pos h2]
          have := h.one i hi hl' hij
          rw [h2] at this; omega
        · rw [if_neg h2]; exact h.one i hi hl' hij
  · rw [swap_length] at hl'
    have h1 := h.one ((j - 1) / 2) hpos hp (by omega)
    rw [ke_swap hp hj, ke_swap hp hj, if_neg (by omega), if_neg (by omega)]
    by_cases hij : i = j
    · subst hij; rw [if_pos rfl]; exact h1
    · rw [if_neg hij, if_neg (by omega)]
      have := h.one i hi hl' hij
      rw [he] at this; omega
theorem HeapU.done {T : List (Int × Int)} {j : Nat} (h : HeapU T j) (h0 : j = 0 ∨ ke T ((j - 1) / 2) ≤ ke T j) : Heap T := fun i hi hl => by
  by_cases e : i = j
  · subst e
    rcases h0 with h0 | h0
    · omega
    · exact h0
  · exact h.one i hi hl e
theorem ke_append {T : List (Int × Int)} {x : Int × Int} {i : Nat} (h : i < T.length) : ke (T ++ [x]) i = ke T i := by simp [-Bool.exists_bool, ke, at', List.getElem?_append_left h]
theorem HeapU.push {T : List (Int × Int)} (h : Heap T) (x : Int × Int) : HeapU (T ++ [x]) T.length := by
  refine ⟨fun i hi hl hne => ?_, fun i hi hl he _ => ?_⟩
  · simp [-Bool.exists_bool] at hl
    rw [ke_append (by omega), ke_append (by omega)]; exact h i hi (by omega)
  · simp [-Bool.exists_bool] at hl; omega

structure HeapD (T : List (Int × Int)) (n i : Nat) : Prop where
  one : ∀ k, 0 < k → k < n → (k - 1) / 2 ≠ i → ke T ((k - 1) / 2) ≤ ke T k
  two : ∀ k, 0 < k → k < n → (k - 1) / 2 = i → 0 < i → ke T ((i - 1) / 2) ≤ ke T k
theorem HeapD.step {T : List (Int × Int)} {n i j : Nat} (h : HeapD T n i) (hn : n ≤ T.length) (hj : j < n) (h0 : 0 < j) (hp : (j - 1) / 2 = i) (hl : ke T j < ke T i) (hm : ∀ k, 0 < k → k < n → (k - 1) / 2 = i → ke T j ≤ ke T k) : HeapD (swap T i j) n j := by
  have hi : i < T.length := by omega
  have hj' : j < T.length := by omega
  refine ⟨fun k hk hkn hne => ?_, fun k hk hkn he _ => ?_⟩
  · rw [ke_swap hi hj', ke_swap hi hj', if_neg hne]
    by_cases hki : k = i
    · subst hki
      rw [if_neg (by omega), if_neg (by omega), if_pos rfl]
      exact h.two j h0 hj hp hk
    · rw [if_neg hki]
      by_cases h1 : (k - 1) / 2 = i
      · rw [if_pos h1]
        by_cases h2 : k = j
        · rw [if_pos h2]; omega
        · rw [if_neg h2]; exact hm k hk hkn h1
      · rw [if_neg h1, if_neg (by rintro rfl; exact h1 hp)]; exact h.one k hk hkn h1
  · rw [ke_swap hi hj', ke_swap hi hj', hp, if_neg (by omega), if_pos rfl, if_neg (by omega), if_neg (by omega)]
    have := h.one k hk hkn (by omega)
    rw [he] at this; exact this
def HeapN (T : List (Int × Int)) (n : Nat) : Prop := ∀ i, 0 < i → i < n → ke T ((i - 1) / 2) ≤ ke T i
theorem HeapD.done {T : List (Int × Int)} {n i : Nat} (h : HeapD T n i) (hm : ∀ k, 0 < k → k < n → (k - 1) / 2 = i → ke T i ≤ ke T k) : HeapN T n := fun k hk hkn => by
  by_cases e : (k - 1) / 2 = i
  · rw [e]; exact hm k hk hkn e
  · exact h.one k hk hkn e
theorem HeapD.pop {T : List (Int × Int)} (h : Heap T) (h0 : 0 < T.length) : HeapD (swap T 0 (T.length - 1)) (T.length - 1) 0 := by
  refine ⟨fun k hk hkn hne => ?_, fun k hk hkn he hh => by omega⟩
  rw [ke_swap h0 (by omega), ke_swap h0 (by omega), if_neg (by omega), if_neg hne, if_neg (by omega), if_neg (by omega)]
  exact h k hk (by omega)
theorem Heap.min {T : List (Int × Int)} (h : Heap T) : ∀ i, i < T.length → ke T 0 ≤ ke T i := by
  intro i
  induction i using Nat.strongRecOn with
  | _ i ih =>
    intro hi
    by_cases h0 : i = 0
    · subst h0; exact Int.le_refl _
    · have h1 := h i (by omega) hi
      have h2 := ih ((i - 1) / 2) (by omega) (by omega)
      omega
/-- What is left behind the last one's leaving. -/
theorem HeapN.take {T : List (Int × Int)} {n : Nat} (h : HeapN T n) (hn : T.length = n + 1) : Heap (T.take n) := fun i hi hl => by
  have key : ∀ k, k < n → ke (T.take n) k = ke T k := fun k hk => by simp [-Bool.exists_bool, ke, at', List.getElem?_take, hk]
  simp [-Bool.exists_bool] at hl
  rw [key _ (by omega), key _ (by omega)]; exact h i hi (by omega)
theorem take_last {T : List (Int × Int)} {n : Nat} (hn : T.length = n + 1) : T = T.take n ++ [at' T n] := by
  have : T.drop n = [at' T n] := by
    rw [List.drop_eq_getElem_cons (by omega), List.drop_eq_nil_of_le (by omega)]
    simp [-Bool.exists_bool, at', hn]
  rw [← this, List.take_append_drop]
theorem mem_take_last {T : List (Int × Int)} {n : Nat} (hn : T.length = n + 1) {e : Int × Int} : e ∈ T ↔ e = at' T n ∨ e ∈ T.take n := by
  conv => lhs; rw [take_last hn]
  simp [-Bool.exists_bool, or_comm]
end Spf

set_option maxRecDepth 100000
namespace Go.Proofs.Ytiomjekkmjinbaa
open Go Go.Ab Spf
theorem mixed : Try.prog.follows .mixedOrders = true := by kernel_rfl
abbrev vi (x : Int) : Value := .int .i64 x
abbrev pp (i : Nat) : Value := .pointer (some ⟨i, 0, none⟩)
def encF (e : Int × Int) : List Value := [vi e.1, vi e.2]
@[simp] theorem encF_len (e : Int × Int) : (encF e).length = 2 := rfl

theorem flat_set {g : List Value} {y : Int × Int} : ∀ (T : List (Int × Int)) (i : Nat), i < T.length → (T.flatMap encF ++ g).take (i * 2) ++ (encF y ++ (T.flatMap encF ++ g).drop (i * 2 + 2)) = (T.set i y).flatMap encF ++ g
  | [], _, h => by simp [-Bool.exists_bool] at h
  | x :: T, 0, _ => by simp [-Bool.exists_bool, encF]
  | x :: T, i + 1, h => by
    have := flat_set (g := g) (y := y) T i (by simpa [-Bool.exists_bool] using h)
    have e1 : (i + 1) * 2 = i * 2 + 2 := by omega
    simp only [List.set_cons_succ, List.flatMap_cons, List.append_assoc, e1]
    rw [← this]
    simp [-Bool.exists_bool, encF]

/-- The queue: a pointer's block, the data's block. -/
structure Qu (m : Mem) (n q b : Nat) (s : Option Nat) (c : Nat) (T : List (Int × Int)) (g : List Value) : Prop where
  sp : s = none ∨ s = some 0
  get : m.get q = some (.cells none tSpfqueue 1 [.slice (some ⟨b, 0, s⟩) T.length c])
  dat : m.get b = some (.cells none tSpffar 2 (T.flatMap encF ++ g))
  len : T.length * 2 + g.length = c * 2
  pos : 0 < c
  lq : q < n
  lb : b < n
  ne : q ≠ b
  big : T.length ≤ 100000
section
variable {m m' : Mem} {n n' q b c : Nat} {s : Option Nat} {T : List (Int × Int)} {g : List Value}
theorem Qu.off (h : Qu m n q b s c T g) : offOf 0 s = 0 := by rcases h.sp with e | e <;> subst e <;> rfl
theorem Qu.sl (h : Qu m n q b s c T g) : Sl m n (some ⟨b, 0, s⟩) c (T.flatMap encF) := by
  refine .inr ⟨b, 0, s, T.flatMap encF ++ g, rfl, h.lb, by simp [-Bool.exists_bool, cellsOf, h.dat], fun _ => ⟨by simp [-Bool.exists_bool, liveAt, h.dat], fun _ => h.pos, by simp [-Bool.exists_bool, nilAt, h.dat]⟩, ?_, ?_⟩
  · rw [h.off]; simp [-Bool.exists_bool]
  · rw [h.off]; simp [-Bool.exists_bool]
theorem Qu.same (h : Qu m n q b s c T g) (k : n ≤ n') (hq : m'.get q = m.get q) (hb : m'.get b = m.get b) : Qu m' n' q b s c T g :=
  ⟨h.sp, hq.trans h.get, hb.trans h.dat, h.len, h.pos, by have := h.lq; omega, by have := h.lb; omega, h.ne, h.big⟩
theorem at_get {i : Nat} (hi : i < T.length) : T[i] = at' T i := by simp [-Bool.exists_bool, at', hi]

theorem qlen_c {a : Option Addr} {l c : Nat} {Q : Value → Mem → Nat → Prop} (hq : Q (vi l) m n) : Wc Try.prog fSpfqueueLen [.slice a l c] m n Q := by
  refine Wc_of mixed (cfg := xcfg) (fuel := 400) ?_
  rw [xSpfqueueLen]
  exact hq
theorem less_c (h : Qu m n q b s c T g) {i k : Nat} (hi : i < T.length) (hk : k < T.length) {Q : Value → Mem → Nat → Prop} (hq : Q (.bool (decide (ke T i < ke T k))) m n) : Wc Try.prog fSpfqueueLess [.slice (some ⟨b, 0, s⟩) T.length c, vi i, vi k] m n Q := by
  refine Wc.scalar ?_ rfl hq
  refine Wc_of mixed (cfg := xcfg) (fuel := 400) ?_
  rw [xSpfqueueLess]
  refine h.sl.ldv encF_len hi (by omega) fun b1 o1 s1 c1 r1 _ => ⟨c1, _, r1 1 _ rfl, ?_⟩
  refine h.sl.ldv encF_len hk (by omega) fun b2 o2 s2 c2 r2 _ => ⟨c2, _, r2 1 _ rfl, ?_⟩
  rw [at_get hi, at_get hk]
  exact ⟨rfl, Le.refl.up (by omega)⟩
theorem qswap_c (h : Qu m n q b s c T g) {i k : Nat} (hi : i < T.length) (hk : k < T.length) :
    ∃ m', Qu m' (n + 16) q b s c (swap T i k) g ∧ (∀ j, j ≠ b → m'.get j = m.get j) ∧ Exact Try.prog fSpfqueueSwap [.slice (some ⟨b, 0, s⟩) T.length c, vi i, vi k] m n (.tuple ⟨[]⟩) m' (n + 16) := by
  have hlen := h.len
  have hfl : (T.flatMap encF ++ g).length = c * 2 := by rw [List.length_append, flatMap_len encF_len]; omega
  have s1 := store_of (off := 0 + i * 2) (vs := encF (at' T k)) h.dat (by rw [hfl, encF_len]; omega) (by simp [-Bool.exists_bool, encF, cellOk])
  have e1 := flat_set (g := g) (y := at' T k) T i hi
  simp only [encF_len, Nat.zero_add] at s1
  rw [e1] at s1
  generalize hm1 : m.set b (.cells none tSpffar 2 ((T.set i (at' T k)).flatMap encF ++ g)) = m1 at s1
  have d1 : m1.get b = some (.cells none tSpffar 2 ((T.set i (at' T k)).flatMap encF ++ g)) := by rw [← hm1]; simp [-Bool.exists_bool, Tr.get_set]
  have hfl1 : ((T.set i (at' T k)).flatMap encF ++ g).length = c * 2 := by rw [List.length_append, flatMap_len encF_len, List.length_set]; omega
  have s2 := store_of (off := 0 + k * 2) (vs := encF (at' T i)) d1 (by rw [hfl1, encF_len]; omega) (by simp [-Bool.exists_bool, encF, cellOk])
  have e2 := flat_set (g := g) (y := at' T i) (T.set i (at' T k)) k (by simpa [-Bool.exists_bool] using hk)
  simp only [encF_len, Nat.zero_add] at s2
  rw [e2] at s2
  generalize hm2 : m1.set b (.cells none tSpffar 2 (((T.set i (at' T k)).set k (at' T i)).flatMap encF ++ g)) = m2 at s2
  have k2 : ∀ j, j ≠ b → m2.get j = m.get j := fun j hj => by rw [← hm2, Tr.get_set, if_neg (fun e => hj e.symm), ← hm1, Tr.get_set, if_neg (fun e => hj e.symm)]
  have hl : (swap T i k).length = T.length := swap_length
  refine ⟨m2, ⟨h.sp, ?_, ?_, ?_, h.pos, by have := h.lq; omega, by have := h.lb; omega, h.ne, by rw [hl]; exact h.big⟩, k2, fun Q hq => ?_⟩
  · rw [hl, k2 q h.ne]; exact h.get
  · rw [← hm2]; simp [-Bool.exists_bool, Tr.get_set, swap]
  · rw [hl]; exact hlen
  · refine Wc_of mixed (cfg := xcfg) (fuel := 400) ?_
    rw [xSpfqueueSwap]
    have hoff := h.off
    have live : liveAt m b = true := by simp [-Bool.exists_bool, liveAt, h.dat]
    have live1 : liveAt m1 b = true := by simp [-Bool.exists_bool, liveAt, d1]
    refine h.sl.ldv encF_len hk (by omega) fun b1 o1 s1' c1 _ r1 => ⟨(at' T k).1, (at' T k).2, by rw [at_get hk] at r1; exact r1, ?_⟩
    refine h.sl.ldv encF_len hi (by omega) fun b2 o2 s2' c2 _ r2 => ⟨(at' T i).1, (at' T i).2, by rw [at_get hi] at r2; exact r2, ?_⟩
    refine ⟨⟨by omega, by omega, live, fun _ => h.pos⟩, m1, ?_, ⟨by omega, by omega, live1, fun _ => h.pos⟩, m2, ?_, Nat.le_refl _, Nat.le_refl _, hq⟩
    · rw [hoff, Nat.zero_add]; exact s1
    · rw [hoff, Nat.zero_add]; exact s2
end
end Go.Proofs.Ytiomjekkmjinbaa

set_option maxRecDepth 100000
namespace Go.Proofs.Ytiomjekkmjinbaa
open Go Go.Ab Spf

section
variable {m m' : Mem} {n n' q b c : Nat} {s : Option Nat} {T : List (Int × Int)} {g : List Value}
theorem wrap_par {j : Nat} (h0 : 0 < j) (hb : j ≤ 1000000) : IntKind.i64.wrap ((IntKind.i64.wrap ((j : Int) - 1)).tdiv 2) = (((j - 1) / 2 : Nat) : Int) := by
  rw [wrapP h0 (by omega)]
  have : ((j - 1 : Nat) : Int).tdiv 2 = (((j - 1) / 2 : Nat) : Int) := (Int.ofNat_tdiv _ _).symm
  rw [this, wrap_id (by omega) (by omega)]
theorem wrap_par0 : IntKind.i64.wrap ((IntKind.i64.wrap (((0 : Nat) : Int) - 1)).tdiv 2) = ((0 : Nat) : Int) := by decide
theorem wrap_kid {i : Nat} (hb : i ≤ 1000000) : IntKind.i64.wrap (IntKind.i64.wrap (2 * (i : Int)) + 1) = ((2 * i + 1 : Nat) : Int) := by
  rw [wrap_id (x := 2 * (i : Int)) (by omega) (by omega), wrap_id (by omega) (by omega)]; omega

theorem up_loop : ∀ (j : Nat) {m : Mem} {n : Nat} {T : List (Int × Int)}, Qu m n q b s c T g → HeapU T j → j < T.length →
    ∃ m' n' T', Qu m' n' q b s c T' g ∧ Heap T' ∧ T'.length = T.length ∧ (∀ e, e ∈ T' ↔ e ∈ T) ∧ n ≤ n' ∧ (∀ i, i ≠ b → m'.get i = m.get i) ∧
      ∀ Q : Value → Mem → Nat → Prop, Q (.tuple ⟨[]⟩) m' n' → W Try.prog { fn := fContainerheapup, nt := 23, slots := [(0, .iface tPspfqueue (pp q)), (1, vi j)], todo := pt Try.prog fContainerheapup [0, 0] } m n Q := by
  intro j
  induction j using Nat.strongRecOn with
  | _ j ih =>
    intro m n T h hu hj
    have hbig := h.big
    by_cases h0 : j = 0
    · subst h0
      refine ⟨m, n, T, h, hu.done (.inl rfl), rfl, fun e => Iff.rfl, Nat.le_refl _, fun _ _ => rfl, fun Q hq => ?_⟩
      refine W_of mixed (cfg := xcfg) (fuel := 400) ?_
      rw [xContainerheapupk0]
      exact ⟨by decide, condET wrap_par0 hq⟩
    have hw := wrap_par (j := j) (by omega) (by omega)
    have hp : (j - 1) / 2 < T.length := by omega
    by_cases hl : ke T j < ke T ((j - 1) / 2)
    · obtain ⟨m1, h1, k1, run1⟩ := qswap_c h hp hj
      obtain ⟨m2, n2, T2, h2, g1, g2, g3, g4, g5, run⟩ := ih ((j - 1) / 2) (by omega) h1 (hu.step (by omega) hj hl) (by rw [swap_length]; exact hp)
      refine ⟨m2, n2, T2, h2, g1, by rw [g2, swap_length], fun e => (g3 e).trans (mem_swap hp hj), by omega, fun i hi => (g5 i hi).trans (k1 i hi), fun Q hq => ?_⟩
      refine W_of mixed (cfg := xcfg) (fuel := 400) ?_
      rw [xContainerheapupk0, hw]
      refine ⟨by decide, condEF (by omega) ⟨_, _, _, rd_of h.get rfl, less_c h hj hp ⟨_, rfl, Later.mk ?_⟩⟩⟩
      rw [decide_eq_true hl]
      exact ⟨_, _, _, rd_of h.get rfl, run1 _ ⟨rfl, Later.mk (run Q hq)⟩⟩
    · refine ⟨m, n, T, h, hu.done (.inr (by omega)), rfl, fun e => Iff.rfl, Nat.le_refl _, fun _ _ => rfl, fun Q hq => ?_⟩
      refine W_of mixed (cfg := xcfg) (fuel := 400) ?_
      rw [xContainerheapupk0, hw]
      refine ⟨by decide, condEF (by omega) ⟨_, _, _, rd_of h.get rfl, less_c h hj hp ⟨_, rfl, Later.mk ?_⟩⟩⟩
      rw [decide_eq_false hl]
      exact hq

theorem down_loop {N : Nat} {i0 : Int} : ∀ (d i : Nat) {m : Mem} {n : Nat} {T : List (Int × Int)}, N - i ≤ d → Qu m n q b s c T g → HeapD T N i → N ≤ T.length → i < T.length →
    ∃ m' n' T' r, Qu m' n' q b s c T' g ∧ HeapN T' N ∧ T'.length = T.length ∧ (∀ e, e ∈ T' ↔ e ∈ T) ∧ (∀ k, N ≤ k → at' T' k = at' T k) ∧ n ≤ n' ∧ (∀ i, i ≠ b → m'.get i = m.get i) ∧
      ∀ Q : Value → Mem → Nat → Prop, Q (.bool r) m' n' → W Try.prog { fn := fContainerheapdown, nt := 48, slots := [(0, .iface tPspfqueue (pp q)), (1, .int .i64 i0), (2, vi N), (7, vi i)], todo := pt Try.prog fContainerheapdown [1, 1, 0, 0, 0] } m n Q
  | d, i, m, n, T, hd, h, hh, hN, hi => by
    have hbig := h.big
    have hw := wrap_kid (i := i) (by omega)
    have hw2 : IntKind.i64.wrap (((2 * i + 1 : Nat) : Int) + 1) = ((2 * i + 2 : Nat) : Int) := wrapN (by omega)
    by_cases h1 : N ≤ 2 * i + 1
    · refine ⟨m, n, T, decide ((i : Int) > i0), h, hh.done (fun k _ _ he => by omega), rfl, fun e => Iff.rfl, fun _ _ => rfl, Nat.le_refl _, fun _ _ => rfl, fun Q hq => ?_⟩
      refine W_of mixed (cfg := xcfg) (fuel := 400) ?_
      rw [xContainerheapdownk0, hw]
      exact condDT (by omega) hq
    · have go : ∀ j : Nat, j < N → (j - 1) / 2 = i → 0 < j → (∀ k, 0 < k → k < N → (k - 1) / 2 = i → ke T j ≤ ke T k) →
          ∃ m' n' T' r, Qu m' n' q b s c T' g ∧ HeapN T' N ∧ T'.length = T.length ∧ (∀ e, e ∈ T' ↔ e ∈ T) ∧ (∀ k, N ≤ k → at' T' k = at' T k) ∧ n ≤ n' ∧ (∀ i, i ≠ b → m'.get i = m.get i) ∧
            ∀ Q : Value → Mem → Nat → Prop, Q (.bool r) m' n' → ∃ p7 k8 k9, rd m q 0 = some (.slice p7 k8 k9) ∧ Wc Try.prog fSpfqueueLess [.slice p7 k8 k9, vi j, vi i] m n fun v10 m11 k12 => ∃ b13 : Bool, v10 = .bool b13 ∧ Later (bif !b13 then Q (.bool (decide ((i : Int) > i0))) m11 k12 else
              ∃ p14 k15 k16, rd m11 q 0 = some (.slice p14 k15 k16) ∧ Wc Try.prog fSpfqueueSwap [.slice p14 k15 k16, vi i, vi j] m11 k12 fun v17 m18 k19 => v17 = .tuple ⟨[]⟩ ∧ Later (
                W Try.prog { fn := fContainerheapdown, nt := 48, slots := [(0, .iface tPspfqueue (pp q)), (1, .int .i64 i0), (2, vi N), (7, vi j)], todo := pt Try.prog fContainerheapdown [1, 1, 0, 0, 0] } m18 k19 Q)) := by
        intro j hj hp h0 hm
        by_cases hl : ke T j < ke T i
        · obtain ⟨m1, q1, k1, run1⟩ := qswap_c h hi (show j < T.length by omega)
          match d, hd with
          | d + 1, hd =>
            obtain ⟨m2, n2, T2, r, h2, g1, g2, g3, g4, g5, g6, run⟩ := down_loop d j (by omega) q1 (hh.step hN hj h0 hp hl hm) (by rw [swap_length]; exact hN) (by rw [swap_length]; omega)
            refine ⟨m2, n2, T2, r, h2, g1, by rw [g2, swap_length], fun e => (g3 e).trans (mem_swap hi (by omega)), fun k hk => ?_, by omega, fun i hi => (g6 i hi).trans (k1 i hi), fun Q hq => ?_⟩
            · rw [g4 k hk, at_swap hi (by omega), if_neg (by omega), if_neg (by omega)]
            · refine ⟨_, _, _, rd_of h.get rfl, less_c h (by omega) hi ⟨_, rfl, Later.mk ?_⟩⟩
              rw [decide_eq_true hl]
              exact ⟨_, _, _, rd_of h.get rfl, run1 _ ⟨rfl, Later.mk (run Q hq)⟩⟩
          | 0, hd => exfalso; omega
        · refine ⟨m, n, T, decide ((i : Int) > i0), h, hh.done (fun k k1 k2 k3 => by have := hm k k1 k2 k3; omega), rfl, fun e => Iff.rfl, fun _ _ => rfl, Nat.le_refl _, fun _ _ => rfl, fun Q hq => ?_⟩
          refine ⟨_, _, _, rd_of h.get rfl, less_c h (by omega) hi ⟨_, rfl, Later.mk ?_⟩⟩
          rw [decide_eq_false hl]
          exact hq
      by_cases h2 : 2 * i + 2 < N
      · by_cases h3 : ke T (2 * i + 2) < ke T (2 * i + 1)
        · obtain ⟨m', n', T', r, a1, a2, a3, a4, a5, a6, a7, run⟩ := go (2 * i + 2) h2 (by omega) (by omega) fun k k1 k2 k3 => by
            have : k = 2 * i + 1 ∨ k = 2 * i + 2 := by omega
            rcases this with e | e <;> subst e <;> omega
          refine ⟨m', n', T', r, a1, a2, a3, a4, a5, a6, a7, fun Q hq => ?_⟩
          refine W_of mixed (cfg := xcfg) (fuel := 400) ?_
          rw [xContainerheapdownk0, hw, hw2]
          refine condDF (by omega) (condDF (by omega) (condDT (by omega) ⟨_, _, _, rd_of h.get rfl, less_c h (by omega) (by omega) ⟨_, rfl, Later.mk ?_⟩⟩))
          rw [decide_eq_true h3]
          exact run Q hq
        · obtain ⟨m', n', T', r, a1, a2, a3, a4, a5, a6, a7, run⟩ := go (2 * i + 1) (by omega) (by omega) (by omega) fun k k1 k2 k3 => by
            have : k = 2 * i + 1 ∨ k = 2 * i + 2 := by omega
            rcases this with e | e <;> subst e <;> omega
          refine ⟨m', n', T', r, a1, a2, a3, a4, a5, a6, a7, fun Q hq => ?_⟩
          refine W_of mixed (cfg := xcfg) (fuel := 400) ?_
          rw [xContainerheapdownk0, hw, hw2]
          refine condDF (by omega) (condDF (by omega) (condDT (by omega) ⟨_, _, _, rd_of h.get rfl, less_c h (by omega) (by omega) ⟨_, rfl, Later.mk ?_⟩⟩))
          rw [decide_eq_false h3]
          exact run Q hq
      · obtain ⟨m', n', T', r, a1, a2, a3, a4, a5, a6, a7, run⟩ := go (2 * i + 1) (by omega) (by omega) (by omega) fun k k1 k2 k3 => by
          have : k = 2 * i + 1 := by omega
          subst this; omega
        refine ⟨m', n', T', r, a1, a2, a3, a4, a5, a6, a7, fun Q hq => ?_⟩
        refine W_of mixed (cfg := xcfg) (fuel := 400) ?_
        rw [xContainerheapdownk0, hw, hw2]
        exact condDF (by omega) (condDF (by omega) (condDF (by omega) (run Q hq)))

/-- What a call on the queue changes. -/
structure Stp (m : Mem) (n q b : Nat) (m' : Mem) (n' b' : Nat) : Prop where
  le : n ≤ n'
  same : ∀ i, i < n → i ≠ q → i ≠ b → m'.get i = m.get i
  blk : b' = b ∨ n ≤ b'
  fs : Fs m n → Fs m' n'
theorem Stp.trans {m1 m2 : Mem} {n1 n2 b1 b2 : Nat} (h : Stp m n q b m1 n1 b1) (k : Stp m1 n1 q b1 m2 n2 b2) : Stp m n q b m2 n2 b2 :=
  ⟨Nat.le_trans h.le k.le, fun i hi hq hb => (k.same i (Nat.lt_of_lt_of_le hi h.le) hq (by rcases h.blk with e | e; (· rw [e]; exact hb); (· omega))).trans (h.same i hi hq hb),
    by rcases k.blk with e | e; (· rw [e]; exact h.blk); (· exact .inr (by have := h.le; omega)), fun hf => k.fs (h.fs hf)⟩
theorem Stp.of {n1 : Nat} (hq : b < n) (h : n ≤ n1) (k : ∀ i, i ≠ b → m'.get i = m.get i) : Stp m n q b m' n1 b :=
  ⟨h, fun i _ _ hb => k i hb, .inl rfl, fun hf i hi => by rw [k i (by omega)]; exact hf i (by omega)⟩
end
end Go.Proofs.Ytiomjekkmjinbaa

set_option maxRecDepth 100000
namespace Go.Proofs.Ytiomjekkmjinbaa
open Go Go.Ab Spf
theorem farOk : elemOk Try.prog tSpfqueue tSpffar 2 = true := by kernel_rfl
section
variable {m m' : Mem} {n n' q b c : Nat} {s : Option Nat} {T : List (Int × Int)} {g : List Value}
theorem Qu.app (h : Qu m n q b s c T g) {k : Nat} {x : Int × Int} (hx : m.get k = some (.cells none tSpffar 2 (encF x))) (hl : T.length < 100000) :
    ∃ m' n' b' s' c' g', appendA Try.prog m n tSpfqueue tSpfqueue (.slice (some ⟨b, 0, s⟩) T.length c) (.slice (some ⟨k, 0, none⟩) 1 1) = .val (.slice (some ⟨b', 0, s'⟩) (T.length + 1) c') m' n' ∧
      (s' = none ∨ s' = some 0) ∧ m'.get b' = some (.cells none tSpffar 2 ((T ++ [x]).flatMap encF ++ g')) ∧ (T.length + 1) * 2 + g'.length = c' * 2 ∧ b' < n' ∧ n ≤ n' ∧ (b' = b ∨ n ≤ b') ∧ (∀ i, i < n → i ≠ b → m'.get i = m.get i) ∧ (Fs m n → Fs m' n') := by
  obtain ⟨info, z, hu, hi, hz, h1, h2, h3⟩ := elemOk_some farOk
  have hxs : sliceCells m 2 1 (.slice (some ⟨k, 0, none⟩) 1 1) = some (encF x) := by simp [-Bool.exists_bool, sliceCells, cellsOf, hx, takeAt, encF]
  have harg : appArg m z info (.slice tSpffar) (.slice (some ⟨k, 0, none⟩) 1 1) = some (1, encF x) := by simp only [appArg, h1, hxs, Option.map_some]
  have hc : (encF x).all cellOk = true := by simp [-Bool.exists_bool, encF, cellOk]
  have hlen := h.len
  have hfl : (T.flatMap encF).length = T.length * 2 := flatMap_len encF_len _
  have hoff := h.off
  have hbig : (2 * (T.length + 1) + 256) * info.bytes ≤ 2 ^ 48 := by
    have : (2 * (T.length + 1) + 256) * info.bytes ≤ (2 * 2 ^ 30 + 256) * 1024 := Nat.mul_le_mul (by omega) h3
    omega
  by_cases hfit : T.length + 1 ≤ c
  · -- in place
    have hst := store_of (off := T.length * 2) (vs := encF x) h.dat (by rw [List.length_append, hfl, encF_len]; omega) hc
    have e : (T.flatMap encF ++ g).take (T.length * 2) ++ (encF x ++ (T.flatMap encF ++ g).drop (T.length * 2 + 2)) = (T ++ [x]).flatMap encF ++ g.drop 2 := by
      rw [List.take_append_of_le_length (by omega), List.take_of_length_le (by omega), List.drop_append, List.drop_of_length_le (by omega), hfl, show T.length * 2 + 2 - T.length * 2 = 2 by omega]
      simp [-Bool.exists_bool]
    rw [encF_len, e] at hst
    refine ⟨m.set b (.cells none tSpffar 2 ((T ++ [x]).flatMap encF ++ g.drop 2)), n, b, s, c, g.drop 2, ?_, h.sp, by simp [-Bool.exists_bool, Tr.get_set], by rw [List.length_drop]; omega, h.lb, Nat.le_refl _, .inl rfl, fun i _ hb => by rw [Tr.get_set, if_neg (fun e => hb e.symm)], fun hf => hf.in_ h.lb⟩
    simp only [appendA, hu, hi, hz, harg, h1, h2, hc, hoff, Nat.zero_add]
    simp [-Bool.exists_bool, hfit, hst]
  · have hg : g = [] := List.length_eq_zero_iff.1 (by omega)
    subst hg
    have hcl : c = T.length := by simp [-Bool.exists_bool] at hlen; omega
    have hold : sliceCells m 2 T.length (.slice (some ⟨b, 0, s⟩) T.length c) = some (T.flatMap encF) := h.sl.cells hfl (by omega)
    have hle : T.length ≤ c := by omega
    rcases h.sp with e | e <;> subst e
    · refine ⟨m.set n (.cells none tSpffar 2 (T.flatMap encF ++ encF x)), n + 1, n, some 0, T.length + 1, [], ?_, .inr rfl, by simp [-Bool.exists_bool, Tr.get_set], by simp, by omega, by omega, .inr (Nat.le_refl _), fun i hi' _ => by rw [Tr.get_set, if_neg (by omega)], fun hf => hf.set⟩
      simp only [appendA, hu, hi, hz, harg, h1, h2, hc, hold, hfit, hle]
      simp [-Bool.exists_bool, hbig]; omega
    · refine ⟨(m.del b).set n (.cells none tSpffar 2 (T.flatMap encF ++ encF x)), n + 1, n, some 0, T.length + 1, [], ?_, .inr rfl, by simp [-Bool.exists_bool, Tr.get_set], by simp, by omega, by omega, .inr (Nat.le_refl _), fun i hi' hb => by rw [Tr.get_set, if_neg (by omega), Tr.get_del, if_neg (fun e => hb e.symm)], fun hf i hi' => by
        rw [Tr.get_set, if_neg (by omega), Tr.get_del]
        split
        · rfl
        · exact hf i (by omega)⟩
      have hd := h.dat
      simp only [List.append_nil] at hd
      simp only [appendA, hu, hi, hz, harg, h1, h2, hc, hold, hfit, hle, hd]
      simp [-Bool.exists_bool, hbig, hfl, hcl]; omega

theorem qpush_c (h : Qu m n q b s c T g) (x : Int × Int) (hl : T.length < 100000) :
    ∃ m' n' b' s' c' g', Qu m' n' q b' s' c' (T ++ [x]) g' ∧ Stp m n q b m' n' b' ∧ Exact Try.prog fSpfqueuePush [pp q, .iface tSpffar (.agg ⟨encF x⟩)] m n (.tuple ⟨[]⟩) m' n' := by
  have hlq := h.lq
  have hlb := h.lb
  have hne := h.ne
  generalize hm5 : m.set (n + 6) (.cells none tSpffar 2 (encF x)) = m5
  have k5 : ∀ i, i ≠ n + 6 → m5.get i = m.get i := fun i hi => by rw [← hm5, Tr.get_set, if_neg (fun e => hi e.symm)]
  have h5 : Qu m5 (n + 10) q b s c T g := h.same (by omega) (k5 q (by omega)) (k5 b (by omega))
  obtain ⟨m9, n9, b', s', c', g', a1, a2, a3, a4, a5, a6, a7, a8, a9⟩ := h5.app (k := n + 6) (x := x) (by rw [← hm5]; simp [-Bool.exists_bool, Tr.get_set]) hl
  have g9 : m9.get q = some (.cells none tSpfqueue 1 [.slice (some ⟨b, 0, s⟩) T.length c]) := by rw [a8 q (by omega) hne]; exact h5.get
  have hqb : q ≠ b' := by rcases a7 with e | e; (· rw [e]; exact hne); (· omega)
  have hst := store_of (off := 0) (vs := [.slice (some ⟨b', 0, s'⟩) (T.length + 1) c']) g9 (by simp [-Bool.exists_bool]) (by simp [-Bool.exists_bool, cellOk])
  simp [-Bool.exists_bool] at hst
  have hll : (T ++ [x]).length = T.length + 1 := by simp [-Bool.exists_bool]
  refine ⟨m9.set q (.cells none tSpfqueue 1 [.slice (some ⟨b', 0, s'⟩) (T.length + 1) c']), n9, b', s', c', g', ⟨a2, by rw [hll]; simp [-Bool.exists_bool, Tr.get_set], by rw [Tr.get_set, if_neg hqb]; exact a3, by rw [hll]; exact a4, by omega, by omega, a5, hqb, by rw [hll]; omega⟩,
    ⟨by omega, fun i hi h1 h2 => by rw [Tr.get_set, if_neg (fun e => h1 e.symm), a8 i (by omega) h2, k5 i (by omega)], by rcases a7 with e | e; (· exact .inl e); (· exact .inr (by omega)), fun hf => ?_⟩, fun Q hq => ?_⟩
  · have : Fs m5 (n + 10) := fun i hi => by rw [k5 i (by omega)]; exact hf i (by omega)
    exact (a9 this).in_ (by omega)
  · refine Wc_of mixed (cfg := xcfg) (fuel := 400) ?_
    simp only [encF, vi]
    rw [xSpfqueuePush]
    refine ⟨_, _, _, rd_of h.get rfl, rfl, _, _, rfl, memLet.mk fun mm e => ?_⟩
    rw [show Tr.set m (n + 6) (.cells none tSpffar 2 [.int .i64 x.1, .int .i64 x.2]) = m5 from hm5] at e
    subst e
    exact ⟨_, _, _, _, _, a1, _, hst, by omega, by omega, hq⟩
theorem push_c (h : Qu m n q b s c T g) (hh : Heap T) (x : Int × Int) (hl : T.length < 99999) :
    ∃ m' n' b' s' c' T' g', Qu m' n' q b' s' c' T' g' ∧ Heap T' ∧ T'.length = T.length + 1 ∧ (∀ e, e ∈ T' ↔ e = x ∨ e ∈ T) ∧ Stp m n q b m' n' b' ∧ Exact Try.prog fContainerheapPush [.iface tPspfqueue (pp q), .iface tSpffar (.agg ⟨encF x⟩)] m n (.tuple ⟨[]⟩) m' n' := by
  obtain ⟨m1, n1, b1, s1, c1, g1, h1, st1, run1⟩ := qpush_c h x (by omega)
  obtain ⟨m2, n2, T2, h2, i1, i2, i3, i4, i5, run2⟩ := up_loop T.length h1 (HeapU.push hh x) (by simp [-Bool.exists_bool])
  refine ⟨m2, n2, b1, s1, c1, T2, g1, h2, i1, by simpa [-Bool.exists_bool] using i2, fun e => by rw [i3]; simp [-Bool.exists_bool, or_comm], st1.trans (Stp.of h1.lb i4 i5), fun Q hq => ?_⟩
  refine Wc_of mixed (cfg := xcfg) (fuel := 400) ?_
  simp only [encF, vi]
  rw [xContainerheapPush]
  refine run1 _ ⟨rfl, Later.mk ⟨_, _, _, rd_of h1.get rfl, qlen_c ⟨_, rfl, Later.mk ?_⟩⟩⟩
  have hw : IntKind.i64.wrap (((T ++ [x]).length : Nat) - 1 : Int) = (T.length : Nat) := by rw [List.length_append, List.length_singleton, wrap_id (by omega) (by omega)]; omega
  rw [hw]
  refine Wc_of mixed (cfg := xcfg) (fuel := 400) ?_
  rw [xContainerheapup]
  exact run2 _ ⟨rfl, Later.mk hq⟩

theorem qpop_c (h : Qu m n q b s c T g) {k : Nat} (hk : T.length = k + 1) :
    ∃ m' s' g', Qu m' (n + 1) q b s' c (T.take k) g' ∧ Stp m n q b m' (n + 1) b ∧ Exact Try.prog fSpfqueuePop [pp q] m n (.iface tSpffar (.agg ⟨encF (at' T k)⟩)) m' (n + 1) := by
  have hbig := h.big
  have hlq := h.lq
  have hlb := h.lb
  have hw : IntKind.i64.wrap ((T.length : Int) - 1) = (k : Nat) := by rw [wrapP (by omega) (by omega)]; omega
  generalize hm1 : (m.set n (.cells none tSpffar 2 [.int .i64 0, .int .i64 0])).set n (.cells none tSpffar 2 (encF (at' T k))) = m1
  have k1 : ∀ i, i ≠ n → m1.get i = m.get i := fun i hi => by rw [← hm1, Tr.get_set, if_neg (fun e => hi e.symm), Tr.get_set, if_neg (fun e => hi e.symm)]
  have d1 : m1.get n = some (.cells none tSpffar 2 (encF (at' T k))) := by rw [← hm1]; simp [-Bool.exists_bool, Tr.get_set]
  have hst1 : storeCs (m.set n (.cells none tSpffar 2 [.int .i64 0, .int .i64 0])) n 0 (encF (at' T k)) = some m1 := by
    have := store_of (m := m.set n (.cells none tSpffar 2 [.int .i64 0, .int .i64 0])) (b := n) (off := 0) (vs := encF (at' T k)) (T := tSpffar) (sz := 2) (cs := [.int .i64 0, .int .i64 0]) (by simp [-Bool.exists_bool, Tr.get_set]) (by simp [-Bool.exists_bool]) (by simp [-Bool.exists_bool, encF, cellOk])
    rw [this, ← hm1]
    simp [-Bool.exists_bool, encF]
  have g1 : m1.get q = some (.cells none tSpfqueue 1 [.slice (some ⟨b, 0, s⟩) T.length c]) := by rw [k1 q (by omega)]; exact h.get
  have hst2 := store_of (off := 0) (vs := [.slice (some ⟨b, 0, s⟩) k c]) g1 (by simp [-Bool.exists_bool]) (by simp [-Bool.exists_bool, cellOk])
  simp [-Bool.exists_bool] at hst2
  generalize hm2 : m1.set q (.cells none tSpfqueue 1 [.slice (some ⟨b, 0, s⟩) k c]) = m2 at hst2
  have k2 : ∀ i, i ≠ q → m2.get i = m1.get i := fun i hi => by rw [← hm2, Tr.get_set, if_neg (fun e => hi e.symm)]
  have hT := take_last hk
  have hlen := h.len
  have htl : (T.take k).length = k := by simp; omega
  have d2 : m2.get b = some (.cells none tSpffar 2 ((T.take k).flatMap encF ++ (encF (at' T k) ++ g))) := by
    rw [k2 b (Ne.symm h.ne), k1 b (by omega), h.dat]
    conv => lhs; rw [hT]
    simp [-Bool.exists_bool]
  have r2 : rds m2 n 0 2 = some (encF (at' T k)) := by
    have : m2.get n = some (.cells none tSpffar 2 (encF (at' T k))) := by rw [k2 n (by omega)]; exact d1
    simpa [-Bool.exists_bool] using rds_of this
  refine ⟨m2, s, encF (at' T k) ++ g, ⟨h.sp, by rw [htl, ← hm2]; simp [-Bool.exists_bool, Tr.get_set], d2, by rw [htl, List.length_append, encF_len]; omega, h.pos, by omega, by omega, h.ne, by rw [htl]; omega⟩,
    ⟨by omega, fun i hi h1 _ => (k2 i h1).trans (k1 i (by omega)), .inl rfl, fun hf i hi => by rw [k2 i (by omega), k1 i (by omega)]; exact hf i (by omega)⟩, fun Q hq => ?_⟩
  refine Wc_of mixed (cfg := xcfg) (fuel := 400) ?_
  rw [xSpfqueuePop]
  refine ⟨_, _, _, rd_of h.get rfl, _, _, _, rd_of h.get rfl, ?_⟩
  rw [hw]
  refine h.sl.ldv encF_len (i := k) (by omega) (by omega) fun b1 o1 s1 _ _ r1 => ⟨(at' T k).1, (at' T k).2, by rw [at_get (by omega)] at r1; exact r1, memLet.mk fun mm e => ?_⟩
  subst e
  refine ⟨m1, hst1, _, _, _, rd_of g1 rfl, ⟨by omega, by omega⟩, ?_⟩
  have hpos := h.pos
  rcases h.sp with e | e <;> subst e
  · simp only [elimM_none, Nat.add_zero, ite_self, Int.toNat_natCast, Nat.sub_zero]
    exact ⟨m2, hst2, _, _, r2, hq⟩
  · simp only [elimM_some, Nat.add_zero, ite_self, Int.toNat_natCast, Nat.sub_zero]
    exact ⟨⟨Nat.zero_le _, hpos⟩, m2, hst2, _, _, r2, hq⟩
theorem pop_c (h : Qu m n q b s c T g) (hh : Heap T) (h0 : 0 < T.length) :
    ∃ m' n' s' T' g' x, Qu m' n' q b s' c T' g' ∧ Heap T' ∧ T.length = T'.length + 1 ∧ (∀ e, e ∈ T ↔ e = x ∨ e ∈ T') ∧ (∀ e ∈ T, x.2 ≤ e.2) ∧ Stp m n q b m' n' b ∧ Exact Try.prog fContainerheapPop [.iface tPspfqueue (pp q)] m n (.iface tSpffar (.agg ⟨encF x⟩)) m' n' := by
  have hbig := h.big
  have hl : T.length - 1 < T.length := by omega
  obtain ⟨m1, h1, k1, run1⟩ := qswap_c h h0 hl
  obtain ⟨m2, n2, T2, r, h2, i1, i2, i3, i4, i5, i6, run2⟩ := down_loop (N := T.length - 1) (i0 := (0 : Nat)) (T.length - 1) 0 (by omega) h1 (HeapD.pop hh h0) (by simp [-Bool.exists_bool]) (by simpa [-Bool.exists_bool] using h0)
  have hk : T2.length = T.length - 1 + 1 := by rw [i2, swap_length]; omega
  obtain ⟨m3, s3, g3, h3, st3, run3⟩ := qpop_c h2 hk
  have hx : at' T2 (T.length - 1) = at' T 0 := by rw [i4 _ (Nat.le_refl _), at_swap h0 hl, if_pos rfl]
  rw [hx] at run3
  refine ⟨m3, n2 + 1, s3, T2.take (T.length - 1), g3, at' T 0, h3, i1.take hk, by rw [List.length_take]; omega, fun e => ?_, fun e he => ?_, (Stp.of h.lb (by omega) k1).trans ((Stp.of h1.lb i5 i6).trans st3), fun Q hq => ?_⟩
  · rw [← mem_swap h0 hl, ← i3, mem_take_last hk, hx]
  · obtain ⟨i, hi, rfl⟩ := mem_at.1 he
    exact hh.min i hi
  · refine Wc_of mixed (cfg := xcfg) (fuel := 400) ?_
    rw [xContainerheapPop]
    refine ⟨_, _, _, rd_of h.get rfl, qlen_c ⟨_, rfl, Later.mk ⟨_, _, _, rd_of h.get rfl, ?_⟩⟩⟩
    rw [show IntKind.i64.wrap ((T.length : Int) - 1) = ((T.length - 1 : Nat) : Int) from wrapP (by omega) (by omega)]
    refine run1 _ ⟨rfl, Later.mk ?_⟩
    refine Wc_of mixed (cfg := xcfg) (fuel := 400) ?_
    rw [xContainerheapdown]
    exact run2 _ ⟨_, rfl, Later.mk (run3 _ ⟨_, _, rfl, Later.mk hq⟩)⟩
end
end Go.Proofs.Ytiomjekkmjinbaa

set_option maxRecDepth 100000
/- Graphs, walks, distances. -/
namespace Spf

structure Lk where
  a : Int
  b : Int
  c : Int
/-- The other end of a link at a node, or -1. -/
def other (l : Lk) (n : Int) : Int := if n = l.a then l.b else if n = l.b then l.a else -1

structure G where
  N : Nat
  X : List (Lk × Bool)
def okLk (N : Int) (l : Lk) : Bool := (decide (0 ≤ l.a) && decide (l.a < N)) && ((decide (0 ≤ l.b) && decide (l.b < N)) && (decide (l.a ≠ l.b) && (decide (1 ≤ l.c) && decide (l.c ≤ 1000))))
structure G.Ok (g : G) : Prop where
  pos : 1 ≤ g.N
  big : g.N ≤ 32
  many : g.X.length ≤ 128
  lk : ∀ x ∈ g.X, okLk g.N x.1 = true
theorem okLk_iff {N : Int} {l : Lk} : okLk N l = true ↔ 0 ≤ l.a ∧ l.a < N ∧ 0 ≤ l.b ∧ l.b < N ∧ l.a ≠ l.b ∧ 1 ≤ l.c ∧ l.c ≤ 1000 := by
  simp [-Bool.exists_bool, okLk]; omega

/-- A step from u to v over the link i. -/
def St (g : G) (i : Nat) (u v : Nat) (c : Int) : Prop := ∃ l, g.X[i]? = some (l, true) ∧ other l u = v ∧ l.c = c
theorem G.Ok.at {g : G} (h : g.Ok) {i : Nat} {l : Lk} {u : Bool} (hi : g.X[i]? = some (l, u)) : 0 ≤ l.a ∧ l.a < g.N ∧ 0 ≤ l.b ∧ l.b < g.N ∧ l.a ≠ l.b ∧ 1 ≤ l.c ∧ l.c ≤ 1000 :=
  okLk_iff.1 (h.lk _ (List.mem_of_getElem? hi))
theorem other_cases {l : Lk} {n : Int} : (n = l.a ∧ other l n = l.b) ∨ (n ≠ l.a ∧ n = l.b ∧ other l n = l.a) ∨ (n ≠ l.a ∧ n ≠ l.b ∧ other l n = -1) := by
  unfold other
  by_cases h : n = l.a
  · exact .inl ⟨h, if_pos h⟩
  · by_cases h2 : n = l.b
    · exact .inr (.inl ⟨h, h2, by rw [if_neg h, if_pos h2]⟩)
    · exact .inr (.inr ⟨h, h2, by rw [if_neg h, if_neg h2]⟩)
theorem other_symm {l : Lk} {u v : Int} (hne : l.a ≠ l.b) (hv : 0 ≤ v) (h : other l u = v) : other l v = u := by
  rcases other_cases (l := l) (n := u) with ⟨h1, h2⟩ | ⟨h1, h2, h3⟩ | ⟨h1, h2, h3⟩ <;> rcases other_cases (l := l) (n := v) with ⟨g1, g2⟩ | ⟨g1, g2, g3⟩ | ⟨g1, g2, g3⟩ <;> omega
theorem St.symm {g : G} (hg : g.Ok) {i u v : Nat} {c : Int} (h : St g i u v c) : St g i v u c := by
  obtain ⟨l, h1, h2, h3⟩ := h
  exact ⟨l, h1, other_symm (hg.at h1).2.2.2.2.1 (by omega) h2, h3⟩
theorem St.bnd {g : G} (hg : g.Ok) {i u v : Nat} {c : Int} (h : St g i u v c) : u < g.N ∧ v < g.N ∧ u ≠ v ∧ 1 ≤ c ∧ c ≤ 1000 ∧ i < g.X.length := by
  obtain ⟨l, h1, h2, h3⟩ := h
  have := hg.at h1
  have hi := (List.getElem?_eq_some_iff.1 h1).1
  rcases other_cases (l := l) (n := u) with ⟨h1, h4⟩ | ⟨h1, h3, h4⟩ | ⟨h1, h3, h4⟩ <;> omega

/-- Walks. -/
inductive Wk (g : G) (u : Nat) : Nat → Int → Prop where
  | nil : Wk g u u 0
  | snoc {x y : Nat} {k c : Int} {i : Nat} : Wk g u x k → St g i x y c → Wk g u y (k + c)
theorem Wk.trans {g : G} {u v w : Nat} {j k : Int} (h : Wk g u v j) (h2 : Wk g v w k) : Wk g u w (j + k) := by
  induction h2 with
  | nil => simpa [-Bool.exists_bool] using h
  | snoc _ s ih => rw [← Int.add_assoc]; exact ih.snoc s
theorem Wk.cons {g : G} {u v w i : Nat} {c k : Int} (h : St g i u v c) (h2 : Wk g v w k) : Wk g u w (c + k) := by
  have : Wk g u v (0 + c) := Wk.nil.snoc h
  rw [Int.zero_add] at this
  exact this.trans h2
theorem Wk.symm {g : G} (hg : g.Ok) {u v : Nat} {k : Int} (h : Wk g u v k) : Wk g v u k := by
  induction h with
  | nil => exact .nil
  | snoc _ s ih => rw [Int.add_comm]; exact .cons (s.symm hg) ih
def gd (d : List Int) (v : Nat) : Int := (d[v]?).getD (-1)
theorem gd_get {d : List Int} {v : Nat} (h : v < d.length) : d[v] = gd d v := by simp [-Bool.exists_bool, gd, h]
theorem gd_out {d : List Int} {v : Nat} (h : d.length ≤ v) : gd d v = -1 := by simp [-Bool.exists_bool, gd, h]
theorem gd_set {d : List Int} {v w : Nat} {k : Int} (h : v < d.length) : gd (d.set v k) w = if w = v then k else gd d w := by
  unfold gd
  rw [List.getElem?_set]
  by_cases e : v = w
  · subst e; simp [-Bool.exists_bool, h]
  · simp [-Bool.exists_bool, e, Ne.symm e]

/-- The distances from a node. -/
structure IsDist (g : G) (f : Nat) (d : List Int) : Prop where
  len : d.length = g.N
  inb : f < g.N
  lo : ∀ v, -1 ≤ gd d v
  src : gd d f = 0
  edge : ∀ i x y c, St g i x y c → 0 ≤ gd d x → 0 ≤ gd d y ∧ gd d y ≤ gd d x + c
  back : ∀ v, 0 ≤ gd d v → v = f ∨ ∃ i x c, St g i x v c ∧ 0 ≤ gd d x ∧ gd d v = gd d x + c
  val : ∀ v, gd d v ≤ 32000
theorem IsDist.le {g : G} {f : Nat} {d : List Int} (h : IsDist g f d) {v : Nat} {k : Int} (w : Wk g f v k) : 0 ≤ gd d v ∧ gd d v ≤ k := by
  induction w with
  | nil => rw [h.src]; omega
  | snoc _ s ih => have := h.edge _ _ _ _ s ih.1; omega
theorem IsDist.walk {g : G} (hg : g.Ok) {f : Nat} {d : List Int} (h : IsDist g f d) : ∀ (k : Nat) (v : Nat), gd d v = k → Wk g f v (gd d v) := by
  intro k
  induction k using Nat.strongRecOn with
  | _ k ih =>
    intro v hv
    rcases h.back v (by omega) with e | ⟨i, x, c, s, h1, h2⟩
    · subst e; rw [h.src]; exact .nil
    · have hc := s.bnd hg
      rw [h2]
      exact (ih (gd d x).toNat (by omega) x (by omega)).snoc s
theorem IsDist.wk {g : G} (hg : g.Ok) {f : Nat} {d : List Int} (h : IsDist g f d) {v : Nat} (hv : 0 ≤ gd d v) : Wk g f v (gd d v) := h.walk hg (gd d v).toNat v (by omega)
theorem IsDist.lt {g : G} {f : Nat} {d : List Int} (h : IsDist g f d) {v : Nat} (hv : 0 ≤ gd d v) : v < g.N := by
  rcases Nat.lt_or_ge v g.N with h1 | h1
  · exact h1
  · rw [gd_out (by rw [h.len]; exact h1)] at hv; omega
theorem IsDist.eqv {g : G} (hg : g.Ok) {f : Nat} {d e : List Int} (h : IsDist g f d) (k : IsDist g f e) (v : Nat) : gd d v = gd e v := by
  have h1 := h.lo v
  have k1 := k.lo v
  by_cases hd : 0 ≤ gd d v
  · have h2 := k.le (h.wk hg hd)
    have h3 := h.le (k.wk hg h2.1)
    omega
  · by_cases he : 0 ≤ gd e v
    · have h2 := h.le (k.wk hg he); omega
    · omega
theorem gd_ext {d e : List Int} (hl : d.length = e.length) (h : ∀ v, gd d v = gd e v) : d = e := by
  apply List.ext_getElem hl
  intro i h1 h2
  rw [gd_get h1, gd_get h2]; exact h i
theorem IsDist.uniq {g : G} (hg : g.Ok) {f : Nat} {d e : List Int} (h : IsDist g f d) (k : IsDist g f e) : d = e := gd_ext (h.len.trans k.len.symm) (h.eqv hg k)
/-- The distance is the same in both directions. -/
theorem IsDist.sym {g : G} (hg : g.Ok) {f t : Nat} {d e : List Int} (h : IsDist g f d) (k : IsDist g t e) : gd d t = gd e f := by
  have h1 := h.lo t
  have k1 := k.lo f
  by_cases hd : 0 ≤ gd d t
  · have h2 := k.le ((h.wk hg hd).symm hg)
    have h3 := h.le ((k.wk hg h2.1).symm hg)
    omega
  · by_cases he : 0 ≤ gd e f
    · have h2 := h.le ((k.wk hg he).symm hg); omega
    · omega
/-- How many are reached. -/
def cnt (d : List Int) : Nat := d.countP fun x => decide (0 ≤ x)
theorem cnt_le (d : List Int) : cnt d ≤ d.length := List.countP_le_length
theorem cnt_set {d : List Int} {v : Nat} {k : Int} (hv : v < d.length) (h : gd d v < 0) (hk : 0 ≤ k) : cnt (d.set v k) = cnt d + 1 := by
  unfold cnt
  rw [List.countP_set hv]
  have h1 : d[v] = gd d v := gd_get hv
  rw [h1]
  simp [-Bool.exists_bool, show ¬ 0 ≤ gd d v by omega, hk]

/-- Dijkstra's invariant: links of x below j are looked at. -/
structure DI (g : G) (f : Nat) (x j : Nat) (d : List Int) (T : List (Int × Int)) : Prop where
  len : d.length = g.N
  inb : f < g.N
  lo : ∀ v, -1 ≤ gd d v
  q : ∀ e ∈ T, ∃ y : Nat, e.1 = y ∧ y < g.N ∧ 0 ≤ e.2 ∧ e.2 ≤ 1000 * cnt d ∧ ((y = f ∧ e.2 = 0) ∨ ∃ i w c, St g i w y c ∧ 0 ≤ gd d w ∧ e.2 = gd d w + c)
  hi : ∀ e ∈ T, ∀ v, gd d v ≤ e.2
  cov : ∀ i w y c, St g i w y c → 0 ≤ gd d w → (w = x → i < j) → (0 ≤ gd d y ∧ gd d y ≤ gd d w + c) ∨ ∃ k, ((y : Int), k) ∈ T ∧ k ≤ gd d w + c
  src : gd d f = 0 ∨ (((f : Int), 0) ∈ T ∧ gd d f = -1)
  back : ∀ v, 0 ≤ gd d v → v = f ∨ ∃ i w c, St g i w v c ∧ 0 ≤ gd d w ∧ gd d v = gd d w + c
  val : ∀ v, 0 ≤ gd d v → gd d v + 1000 ≤ 1000 * cnt d
theorem DI.start {g : G} {f : Nat} (hf : f < g.N) (x : Nat) (j : Nat) : DI g f x j (List.replicate g.N (-1)) [((f : Int), 0)] := by
  have hg : ∀ v, gd (List.replicate g.N (-1)) v = -1 := fun v => by
    unfold gd
    rw [List.getElem?_replicate]
    split <;> rfl
  refine ⟨by simp, hf, fun v => by rw [hg]; omega, fun e he => ?_, fun e he v => ?_, fun i w y c _ h => by rw [hg] at h; omega, .inr ⟨by simp, hg f⟩, fun v h => by rw [hg] at h; omega, fun v h => by rw [hg] at h; omega⟩
  · simp [-Bool.exists_bool] at he; subst he
    exact ⟨f, rfl, hf, Int.le_refl _, by show (0 : Int) ≤ _; omega, .inl ⟨rfl, rfl⟩⟩
  · simp [-Bool.exists_bool] at he; subst he; rw [hg]; show (-1 : Int) ≤ 0; omega
theorem DI.any {g : G} {f x j : Nat} {d : List Int} {T : List (Int × Int)} (h : DI g f x j d T) (hj : g.X.length ≤ j) (hg : g.Ok) (x' j' : Nat) : DI g f x' j' d T :=
  ⟨h.len, h.inb, h.lo, h.q, h.hi, fun i w y c s h1 _ => h.cov i w y c s h1 fun _ => by have := s.bnd hg; omega, h.src, h.back, h.val⟩
/-- The nearest one was there already. -/
theorem DI.skip {g : G} {f x j y : Nat} {d : List Int} {T T' : List (Int × Int)} {e : Int × Int} (h : DI g f x j d T) (hm : ∀ z, z ∈ T ↔ z = e ∨ z ∈ T') (he : e.1 = (y : Nat)) (hy : 0 ≤ gd d y) : DI g f x j d T' := by
  have hsub : ∀ z ∈ T', z ∈ T := fun z hz => (hm z).2 (.inr hz)
  refine ⟨h.len, h.inb, h.lo, fun z hz => h.q z (hsub z hz), fun z hz => h.hi z (hsub z hz), fun i w y' c s h1 h2 => ?_, ?_, h.back, h.val⟩
  · rcases h.cov i w y' c s h1 h2 with h3 | ⟨k, h3, h4⟩
    · exact .inl h3
    · rcases (hm _).1 h3 with h5 | h5
      · have : (y' : Int) = y := by rw [← he, ← h5]
        obtain rfl : y' = y := by omega
        refine .inl ⟨hy, ?_⟩
        have := h.hi _ h3 y'
        simp only at this; omega
      · exact .inr ⟨k, h5, h4⟩
  · rcases h.src with h1 | ⟨h1, h2⟩
    · exact .inl h1
    · rcases (hm _).1 h1 with h5 | h5
      · have : (f : Int) = y := by rw [← he, ← h5]
        obtain rfl : f = y := by omega
        omega
      · exact .inr ⟨h5, h2⟩
/-- The nearest one is new. -/
theorem DI.take {g : G} (hg : g.Ok) {f x j y : Nat} {d : List Int} {T T' : List (Int × Int)} {e : Int × Int} (h : DI g f x j d T) (hj : g.X.length ≤ j) (hm : ∀ z, z ∈ T ↔ z = e ∨ z ∈ T') (hmin : ∀ z ∈ T, e.2 ≤ z.2) (he : e.1 = (y : Nat)) (hy : gd d y < 0) :
    DI g f y 0 (d.set y e.2) T' ∧ cnt (d.set y e.2) = cnt d + 1 := by
  have heT : e ∈ T := (hm e).2 (.inl rfl)
  obtain ⟨y', e1, hyN, h0, hb, hor⟩ := h.q e heT
  obtain rfl : y' = y := by omega
  have hyl : y' < d.length := by rw [h.len]; exact hyN
  have hset := fun w => gd_set (w := w) (k := e.2) hyl
  have hc := cnt_set hyl hy h0
  have hsub : ∀ z ∈ T', z ∈ T := fun z hz => (hm z).2 (.inr hz)
  have hup : ∀ w, 0 ≤ gd d w → w ≠ y' := by rintro w hw rfl; omega
  have hnn : 0 ≤ cnt d := Nat.zero_le _
  refine ⟨⟨by simpa [-Bool.exists_bool] using h.len, h.inb, fun v => ?_, fun z hz => ?_, fun z hz v => ?_, fun i w v c s h1 h2 => ?_, ?_, fun v hv => ?_, fun v hv => ?_⟩, hc⟩
  · rw [hset]; split
    · omega
    · exact h.lo v
  · obtain ⟨v, z1, z2, z3, z4, z5⟩ := h.q z (hsub z hz)
    refine ⟨v, z1, z2, z3, by rw [hc]; omega, ?_⟩
    rcases z5 with z5 | ⟨i, w, c, s, g1, g2⟩
    · exact .inl z5
    · exact .inr ⟨i, w, c, s, by rw [hset, if_neg (hup w g1)]; exact g1, by rw [hset, if_neg (hup w g1)]; exact g2⟩
  · rw [hset]; split
    · exact hmin z (hsub z hz)
    · exact h.hi z (hsub z hz) v
  · have hwy : w ≠ y' := fun e' => by have := h2 e'; omega
    rw [hset, if_neg hwy] at h1
    rw [hset, hset, if_neg hwy]
    rcases h.cov i w v c s h1 (fun _ => by have := s.bnd hg; omega) with ⟨h3, h4⟩ | ⟨k, h3, h4⟩
    · rw [if_neg (hup v h3)]; exact .inl ⟨h3, h4⟩
    · rcases (hm _).1 h3 with h5 | h5
      · have h6 : (v : Int) = y' := by rw [← e1, ← h5]
        obtain rfl : v = y' := by omega
        rw [if_pos rfl, ← h5]
        exact .inl ⟨by rw [← h5] at h0; exact h0, h4⟩
      · exact .inr ⟨k, h5, h4⟩
  · rcases h.src with h1 | ⟨h1, h2⟩
    · left; rw [hset, if_neg (by rintro rfl; omega)]; exact h1
    · by_cases hfy : f = y'
      · subst hfy
        left; rw [hset, if_pos rfl]
        have := hmin _ h1
        simp only at this; omega
      · rcases (hm _).1 h1 with h5 | h5
        · exfalso; apply hfy
          have : (f : Int) = y' := by rw [← e1, ← h5]
          omega
        · right; exact ⟨h5, by rw [hset, if_neg hfy]; exact h2⟩
  · rw [hset] at hv
    by_cases hvy : v = y'
    · subst hvy
      rcases hor with ⟨h1, _⟩ | ⟨i, w, c, s, h1, h2⟩
      · exact .inl h1
      · exact .inr ⟨i, w, c, s, by rw [hset, if_neg (hup w h1)]; exact h1, by rw [hset, hset, if_pos rfl, if_neg (hup w h1)]; exact h2⟩
    · rw [if_neg hvy] at hv
      rcases h.back v hv with h1 | ⟨i, w, c, s, h1, h2⟩
      · exact .inl h1
      · exact .inr ⟨i, w, c, s, by rw [hset, if_neg (hup w h1)]; exact h1, by rw [hset, hset, if_neg hvy, if_neg (hup w h1)]; exact h2⟩
  · rw [hset] at hv ⊢
    rw [hc]
    by_cases hvy : v = y'
    · rw [if_pos hvy]; omega
    · rw [if_neg hvy] at hv ⊢; have := h.val v hv; omega
/-- A link of the new one is looked at. -/
theorem DI.look {g : G} {f x j : Nat} {d : List Int} {T T' : List (Int × Int)} (hg : g.Ok) (h : DI g f x j d T) (hx : 0 ≤ gd d x) (hx2 : ∀ v, gd d v ≤ gd d x) {l : Lk} {u : Bool} (hj : g.X[j]? = some (l, u))
    (hT : if u = true ∧ 0 ≤ other l x ∧ gd d (other l x).toNat < 0 then ∀ z, z ∈ T' ↔ z = (other l x, gd d x + l.c) ∨ z ∈ T else T' = T) : DI g f x (j + 1) d T' := by
  have hlk := hg.at hj
  have hup : ∀ z ∈ T, z ∈ T' := fun z hz => by
    split at hT
    · exact (hT z).2 (.inr hz)
    · rw [hT]; exact hz
  have hdn : ∀ z ∈ T', z ∈ T ∨ (u = true ∧ 0 ≤ other l x ∧ z = (other l x, gd d x + l.c)) := fun z hz => by
    split at hT
    · rename_i hh
      rcases (hT z).1 hz with h1 | h1
      · exact .inr ⟨hh.1, hh.2.1, h1⟩
      · exact .inl h1
    · rw [hT] at hz; exact .inl hz
  have hval := h.val x hx
  refine ⟨h.len, h.inb, h.lo, fun z hz => ?_, fun z hz v => ?_, fun i w y c s h1 h2 => ?_, ?_, h.back, h.val⟩
  · rcases hdn z hz with h1 | ⟨h1, h2, h3⟩
    · exact h.q z h1
    · have hst : St g j x (other l x).toNat l.c := ⟨l, by rw [hj, h1], by omega, rfl⟩
      subst h3
      exact ⟨(other l x).toNat, by show other l x = _; omega, (hst.bnd hg).2.1, by show 0 ≤ gd d x + l.c; omega, by show gd d x + l.c ≤ _; omega, .inr ⟨j, x, l.c, hst, hx, rfl⟩⟩
  · rcases hdn z hz with h1 | ⟨h1, h2, h3⟩
    · exact h.hi z h1 v
    · subst h3; show gd d v ≤ gd d x + l.c
      have := hx2 v; omega
  · by_cases hij : w = x ∧ i = j
    · obtain ⟨rfl, rfl⟩ := hij
      obtain ⟨l', s1, s2, s3⟩ := s
      rw [hj] at s1
      simp only [Option.some.injEq, Prod.mk.injEq] at s1
      obtain ⟨rfl, rfl⟩ := s1
      by_cases hy : gd d y < 0
      · rw [if_pos ⟨rfl, by omega, by rw [s2]; exact hy⟩] at hT
        refine .inr ⟨gd d w + l.c, (hT _).2 (.inl (by rw [s2])), by omega⟩
      · exact .inl ⟨by omega, by have := hx2 y; omega⟩
    · rcases h.cov i w y c s h1 (fun e => by have := h2 e; by_cases hi : i = j; (· exact absurd ⟨e, hi⟩ hij); (· omega)) with h3 | ⟨k, h3, h4⟩
      · exact .inl h3
      · exact .inr ⟨k, hup _ h3, h4⟩
  · rcases h.src with h1 | ⟨h1, h2⟩
    · exact .inl h1
    · exact .inr ⟨hup _ h1, h2⟩
theorem DI.done {g : G} (hg : g.Ok) {f x j : Nat} {d : List Int} (h : DI g f x j d []) (hj : g.X.length ≤ j) : IsDist g f d := by
  refine ⟨h.len, h.inb, h.lo, ?_, fun i w y c s h1 => ?_, h.back, fun v => ?_⟩
  · rcases h.src with h1 | ⟨h1, _⟩
    · exact h1
    · cases h1
  · rcases h.cov i w y c s h1 (fun _ => by have := s.bnd hg; omega) with h2 | ⟨k, h2, _⟩
    · exact h2
    · cases h2
  · by_cases h0 : 0 ≤ gd d v
    · have h1 := h.val v h0
      have h2 := cnt_le d
      have h3 := h.len
      have h4 := hg.big
      omega
    · omega
end Spf

set_option maxRecDepth 100000
namespace Go.Proofs.Ytiomjekkmjinbaa
open Go Go.Ab Spf
def encL (l : Lk) : List Value := [vi l.a, vi l.b, vi l.c]
@[simp] theorem encL_len (l : Lk) : (encL l).length = 3 := rfl

/-- other. -/
theorem other_c {m : Mem} {n : Nat} {l : Lk} {x : Int} {Q : Value → Mem → Nat → Prop} (hq : Q (vi (other l x)) m n) : Wc Try.prog fSpfother [.agg ⟨encL l⟩, vi x] m n Q := by
  refine Wc.scalar ?_ rfl hq
  refine Wc_of mixed (cfg := xcfg) (fuel := 400) ?_
  simp only [encL, vi]
  rw [xSpfother]
  refine memLet.mk fun m' e => ?_
  have hg : m'.get n = some (.cells none tApiLink 3 (encL l)) := by rw [e]; simp [-Bool.exists_bool, Tr.get_set, encL]
  have hle : Le m n m' (n + 1) := by rw [e]; exact Le.new
  refine ⟨isC_of hg, _, rd_of hg rfl, condE (fun h1 => ?_) fun h1 => ?_⟩
  · exact ⟨isC_of hg, _, rd_of hg rfl, by simp [-Bool.exists_bool, other, h1], hle⟩
  · refine ⟨isC_of hg, _, rd_of hg rfl, condE (fun h2 => ?_) fun h2 => ?_⟩
    · exact ⟨isC_of hg, _, rd_of hg rfl, by simp only [other]; rw [if_neg h1, if_pos h2], hle⟩
    · exact ⟨by simp only [other]; rw [if_neg h1, if_neg h2], hle⟩

/-- Which inputs are valid. -/
def inN (N : Int) (x : Int) : Bool := decide (0 ≤ x) && decide (x < N)
def validP (N : Int) (L : List Lk) (ul : Nat) (ends : List Int) : Bool :=
  (decide (1 ≤ N) && decide (N ≤ 32)) && (decide (L.length ≤ 128) && (decide (ul = L.length) && (L.all (okLk N) && ends.all (inN N))))
theorem within_c {m : Mem} {n t1 : Nat} {N x : Int} (hg : m.get t1 = some (.cells none tInt 1 [vi N])) {Q : Value → Mem → Nat → Prop} (hq : Q (.bool (inN N x)) m n) : Wc Try.prog fSpfvalid1 [vi x, pp t1] m n Q := by
  refine Wc_of mixed (cfg := xcfg) (fuel := 400) ?_
  rw [xSpfvalid1]
  refine condD (fun h => ⟨_, rd_of hg rfl, ?_⟩) fun h => ?_
  · have : inN N x = decide (x < N) := by unfold inN; rw [decide_eq_true h]; rfl
    rw [this] at hq; exact hq
  · have : inN N x = false := by unfold inN; rw [decide_eq_false h]; rfl
    rw [this] at hq; exact hq
theorem outside_c {m : Mem} {n t1 wb : Nat} {N x : Int} (hw : m.get wb = some (.cells none tFuncintbool 1 [.func (.func fSpfvalid1) ⟨[]⟩ ⟨[pp t1]⟩])) (hg : m.get t1 = some (.cells none tInt 1 [vi N])) {Q : Value → Mem → Nat → Prop} (hq : Q (.bool (!inN N x)) m n) :
    Wc Try.prog fSpfvalid2 [vi x, pp wb] m n Q := by
  refine Wc_of mixed (cfg := xcfg) (fuel := 400) ?_
  rw [xSpfvalid2]
  exact ⟨_, _, _, rd_of hw rfl, within_c hg ⟨_, rfl, Later.mk hq⟩⟩
theorem index_loop {m : Mem} {n t1 wb : Nat} {N : Int} {X : List Int} {xa : Option Addr} {xc : Nat} (hx : Sl m n xa xc (X.map vi)) (hl : X.length ≤ 1000) (hw : m.get wb = some (.cells none tFuncintbool 1 [.func (.func fSpfvalid1) ⟨[]⟩ ⟨[pp t1]⟩])) (hg : m.get t1 = some (.cells none tInt 1 [vi N])) {Q : Value → Mem → Nat → Prop} :
    ∀ l pre, X = pre ++ l → (∀ x : Int, (decide (x ≥ 0) = !l.all (inN N)) → Q (vi x) m n) → W Try.prog { fn := fSlicesIndexFuncLintint, nt := 19, slots := [(0, .slice xa X.length xc), (1, .func (.func fSpfvalid2) ⟨[]⟩ ⟨[pp wb]⟩), (7, .int .i64 X.length), (8, .int .i64 pre.length)], todo := pt Try.prog fSlicesIndexFuncLintint [1, 0, 1, 0, 0] } m n Q
  | [], pre, h, hq => by
    refine W_of mixed (cfg := xcfg) (fuel := 400) ?_
    rw [xSlicesIndexFuncLintintk0]
    exact condDF (by simp [-Bool.exists_bool, h]) (hq _ rfl)
  | y :: l, pre, h, hq => by
    refine W_of mixed (cfg := xcfg) (fuel := 400) ?_
    rw [xSlicesIndexFuncLintintk0]
    have hlt : pre.length < X.length := by simp [-Bool.exists_bool, h]
    have hy : X[pre.length] = y := by simp [-Bool.exists_bool, h]
    have hlen : (((pre ++ [y]).length : Nat) : Int) = ((pre.length + 1 : Nat) : Int) := by simp [-Bool.exists_bool]
    refine condDT (by omega) (hx.ldi hlt ?_)
    rw [hy]
    refine outside_c hw hg ⟨_, rfl, Later.mk ?_⟩
    cases hi : inN N y with
    | false => exact condT rfl (hq _ (by simp [-Bool.exists_bool, hi]))
    | true =>
      refine condF rfl ?_
      have nxt := index_loop hx hl hw hg l (pre ++ [y]) (by simp [-Bool.exists_bool, h]) (fun x hx => hq x (by simpa [-Bool.exists_bool, hi] using hx))
      rw [hlen, ← wrapN (k := pre.length) (by omega)] at nxt
      exact nxt
theorem valid_loop {m1 : Mem} {n1 t1 wb : Nat} {N : Int} {L : List Lk} {E : List Int} {la ea : Option Addr} {lc ec : Nat} (hL : Sl m1 n1 la lc (L.flatMap encL)) (hE : Sl m1 n1 ea ec (E.map vi)) (hel : E.length ≤ 1000) (hll : L.length ≤ 128)
    (hw : m1.get wb = some (.cells none tFuncintbool 1 [.func (.func fSpfvalid1) ⟨[]⟩ ⟨[pp t1]⟩])) (hg : m1.get t1 = some (.cells none tInt 1 [vi N])) (lw : wb < n1) (lt : t1 < n1) :
    ∀ l pre m n, L = pre ++ l → Le m1 n1 m n → W Try.prog { fn := fSpfvalid, nt := 71, slots := [(3, .slice ea E.length ec), (9, pp wb), (31, .slice la L.length lc), (32, .int .i64 L.length), (33, .int .i64 pre.length)], todo := pt Try.prog fSpfvalid [1, 1, 1, 0, 1, 0, 0] } m n
      fun v m' n' => v = .bool (l.all (okLk N) && E.all (inN N)) ∧ Le m1 n1 m' n'
  | [], pre, m, n, h, hle => by
    refine W_of mixed (cfg := xcfg) (fuel := 400) ?_
    rw [xSpfvalidk0]
    refine condDF (by simp [-Bool.exists_bool, h]) ?_
    refine Wc_of mixed (cfg := xcfg) (fuel := 400) ?_
    rw [xSlicesContainsFuncLintint]
    refine Wc_of mixed (cfg := xcfg) (fuel := 400) ?_
    rw [xSlicesIndexFuncLintint]
    refine index_loop (hE.le hle) hel (hle.get lw hw) (hle.get lt hg) E [] rfl fun x hx => ⟨_, rfl, Later.mk ⟨_, rfl, Later.mk ⟨?_, hle⟩⟩⟩
    rw [hx]; simp [-Bool.exists_bool]
  | y :: l, pre, m, n, h, hle => by
    have hlt : pre.length < L.length := by simp [-Bool.exists_bool, h]
    have hy : L[pre.length] = y := by simp [-Bool.exists_bool, h]
    have hlen : (((pre ++ [y]).length : Nat) : Int) = ((pre.length + 1 : Nat) : Int) := by simp [-Bool.exists_bool]
    have ll := hle.le
    generalize hm3 : (m.set n (.cells none tApiLink 3 [.int .i64 0, .int .i64 0, .int .i64 0])).set n (.cells none tApiLink 3 (encL y)) = m3
    have k3 : ∀ i, i ≠ n → m3.get i = m.get i := fun i hi => by rw [← hm3, Tr.get_set, if_neg (fun e => hi e.symm), Tr.get_set, if_neg (fun e => hi e.symm)]
    have g3 : m3.get n = some (.cells none tApiLink 3 (encL y)) := by rw [← hm3]; simp [-Bool.exists_bool, Tr.get_set]
    have hst : storeCs (m.set n (.cells none tApiLink 3 [.int .i64 0, .int .i64 0, .int .i64 0])) n 0 (encL y) = some m3 := by
      have := store_of (m := m.set n (.cells none tApiLink 3 [.int .i64 0, .int .i64 0, .int .i64 0])) (b := n) (off := 0) (vs := encL y) (T := tApiLink) (sz := 3) (cs := [.int .i64 0, .int .i64 0, .int .i64 0]) (by simp [-Bool.exists_bool, Tr.get_set]) (by simp [-Bool.exists_bool]) (by simp [-Bool.exists_bool, encL, cellOk])
      rw [this, ← hm3]
      simp [-Bool.exists_bool, encL]
    have hle3 : Le m1 n1 m3 (n + 1) := ⟨by omega, fun i hi => by rw [k3 i (by omega)]; exact hle.same i hi⟩
    have nxt := valid_loop hL hE hel hll hw hg lw lt l (pre ++ [y]) m3 (n + 1) (by simp [-Bool.exists_bool, h]) hle3
    rw [hlen, ← wrapN (k := pre.length) (by omega)] at nxt
    refine W_of mixed (cfg := xcfg) (fuel := 400) ?_
    rw [xSpfvalidk0]
    refine condDT (by omega) ((hL.le hle).ldv encL_len hlt (by omega) fun b o s _ _ r1 => ⟨y.a, y.b, y.c, by rw [hy] at r1; exact r1, memLet.mk fun m2 e => ?_⟩)
    subst e
    refine ⟨m3, hst, _, _, _, rd_of (hle3.get lw hw) rfl, isC_of g3, _, rd_of g3 rfl, within_c (hle3.get lt hg) ⟨_, rfl, Later.mk ?_⟩⟩
    have fin : ∀ r : Bool, okLk N y = false → r = false → (Value.bool r = .bool ((y :: l).all (okLk N) && E.all (inN N)) ∧ Le m1 n1 m3 (n + 1)) := fun r h1 h2 => ⟨by simp [-Bool.exists_bool, h1, h2], hle3⟩
    cases ha : inN N y.a with
    | false => exact condT rfl (fin _ (by unfold inN at ha; unfold okLk; rw [ha]; rfl) rfl)
    | true =>
    refine condF rfl ⟨_, _, _, rd_of (hle3.get lw hw) rfl, isC_of g3, _, rd_of g3 rfl, within_c (hle3.get lt hg) ⟨_, rfl, Later.mk ?_⟩⟩
    cases hb : inN N y.b with
    | false => exact condT rfl (fin _ (by unfold inN at ha hb; unfold okLk; rw [ha, hb]; rfl) rfl)
    | true =>
    refine condF rfl ⟨isC_of g3, _, rd_of g3 rfl, isC_of g3, _, rd_of g3 rfl, condE (fun h1 => ?_) fun h1 => ?_⟩
    · exact fin _ (by unfold okLk; simp [-Bool.exists_bool, h1]) rfl
    refine ⟨isC_of g3, _, rd_of g3 rfl, condD (fun h2 => ?_) fun h2 => ?_⟩
    · exact fin _ (by unfold okLk; simp; omega) rfl
    refine ⟨isC_of g3, _, rd_of g3 rfl, condD (fun h3 => ?_) fun h3 => ?_⟩
    · exact fin _ (by unfold okLk; simp; omega) rfl
    have hok : okLk N y = true := by
      simp only [inN, Bool.and_eq_true, decide_eq_true_eq] at ha hb
      rw [okLk_iff]; omega
    simpa only [List.all_cons, hok, Bool.true_and] using nxt
theorem valid_c {m : Mem} {n : Nat} {N : Int} {L : List Lk} {E : List Int} {la ua ea : Option Addr} {lc ul uc ec : Nat} (hL : Sl m n la lc (L.flatMap encL)) (hE : Sl m n ea ec (E.map vi)) (hel : E.length ≤ 1000) {Q : Value → Mem → Nat → Prop} (hq : Q (.bool (validP N L ul E)) m n) :
    Wc Try.prog fSpfvalid [vi N, .slice la L.length lc, .slice ua ul uc, .slice ea E.length ec] m n Q := by
  refine Wc.scalar ?_ rfl hq
  refine Wc_of mixed (cfg := xcfg) (fuel := 400) ?_
  rw [xSpfvalid]
  refine memLet.mk fun m0 e0 => memLet.mk fun m1 e1 => ?_
  generalize hm2 : m1.set (n + 1) (.cells none tFuncintbool 1 [.func (.func fSpfvalid1) ⟨[]⟩ ⟨[pp n]⟩]) = m2
  have g0 : m0.get n = some (.cells none tInt 1 [vi N]) := by rw [e0]; simp [-Bool.exists_bool, Tr.get_set]
  have g1 : m1.get (n + 1) = some (.cells none tFuncintbool 1 [.nilFunc]) := by rw [e1]; simp [-Bool.exists_bool, Tr.get_set]
  have g2 : m2.get (n + 1) = some (.cells none tFuncintbool 1 [.func (.func fSpfvalid1) ⟨[]⟩ ⟨[pp n]⟩]) := by rw [← hm2]; simp [-Bool.exists_bool, Tr.get_set]
  have g3 : m2.get n = some (.cells none tInt 1 [vi N]) := by rw [← hm2, Tr.get_set, if_neg (by omega), e1, Tr.get_set, if_neg (by omega)]; exact g0
  have hle : Le m n m2 (n + 1 + 1) := ⟨by omega, fun i hi => by rw [← hm2, Tr.get_set, if_neg (by omega), e1, Tr.get_set, if_neg (by omega), e0, Tr.get_set, if_neg (by omega)]⟩
  refine ⟨m2, by rw [← hm2]; exact store_of g1 (by simp [-Bool.exists_bool]) (by simp [-Bool.exists_bool, cellOk]), _, rd_of g3 rfl, condD (fun h => ?_) fun h1 => ⟨_, rd_of g3 rfl, condD (fun h => ?_) fun h2 => condD (fun h => ?_) fun h3 => condN (fun h => ?_) fun h4 => ?_⟩⟩
  · exact ⟨by unfold validP; rw [decide_eq_false (by omega)]; rfl, hle⟩
  · exact ⟨by unfold validP; rw [decide_eq_false (p := N ≤ 32) (by omega)]; simp, hle⟩
  · exact ⟨by unfold validP; rw [decide_eq_false (p := L.length ≤ 128) (by omega)]; simp, hle⟩
  · exact ⟨by unfold validP; rw [decide_eq_false (p := ul = L.length) (by omega)]; simp, hle⟩
  · have := valid_loop (hL.le hle) (hE.le hle) hel (by omega) g2 g3 (by omega) (by omega) L [] m2 (n + 1 + 1) rfl Le.refl
    refine W.mono this fun v m' n' ⟨h5, h6⟩ => ⟨?_, hle.trans h6⟩
    rw [h5]; unfold validP
    rw [decide_eq_true (p := 1 ≤ N) (by omega), decide_eq_true (p := N ≤ 32) (by omega), decide_eq_true (p := L.length ≤ 128) (by omega), decide_eq_true (p := ul = L.length) (by omega)]
    rfl
end Go.Proofs.Ytiomjekkmjinbaa

set_option maxRecDepth 100000
namespace Go.Proofs.Ytiomjekkmjinbaa
open Go Go.Ab Spf
theorem wrapU {k : Nat} (h : k ≤ 1000000) : IntKind.u64.wrap (k : Int) = k := by
  unfold IntKind.wrap
  simp only [IntKind.bits, IntKind.signed]
  have : (k : Int) % (2 ^ 64 : Int) = k := Int.emod_eq_of_lt (by omega) (by omega)
  rw [show (2 ^ 64 : Int) = 18446744073709551616 by rfl] at this
  simp [-Bool.exists_bool, this]
def hiF (x y : Int) : Int := (IntKind.u64.wrap (IntKind.u64.wrap (IntKind.u64.wrap (x.fdiv 4294967296 * y.fdiv 4294967296) + (IntKind.u64.wrap (IntKind.u64.wrap (x.fdiv 4294967296 * IntKind.u64.wrap (↑(BitVec.ofInt 64 y &&& BitVec.ofInt 64 4294967295).toNat : Int)) + (IntKind.u64.wrap (IntKind.u64.wrap (↑(BitVec.ofInt 64 x &&& BitVec.ofInt 64 4294967295).toNat : Int) * IntKind.u64.wrap (↑(BitVec.ofInt 64 y &&& BitVec.ofInt 64 4294967295).toNat : Int))).fdiv 4294967296)).fdiv 4294967296) + (IntKind.u64.wrap (IntKind.u64.wrap (↑(BitVec.ofInt 64 (IntKind.u64.wrap (IntKind.u64.wrap (x.fdiv 4294967296 * IntKind.u64.wrap (↑(BitVec.ofInt 64 y &&& BitVec.ofInt 64 4294967295).toNat : Int)) + (IntKind.u64.wrap (IntKind.u64.wrap (↑(BitVec.ofInt 64 x &&& BitVec.ofInt 64 4294967295).toNat : Int) * IntKind.u64.wrap (↑(BitVec.ofInt 64 y &&& BitVec.ofInt 64 4294967295).toNat : Int))).fdiv 4294967296)) &&& BitVec.ofInt 64 4294967295).toNat : Int) + IntKind.u64.wrap (IntKind.u64.wrap (↑(BitVec.ofInt 64 x &&& BitVec.ofInt 64 4294967295).toNat : Int) * y.fdiv 4294967296))).fdiv 4294967296))
theorem hiF_0 : ∀ k : Nat, k < 33 → hiF ((1 : Nat) : Int) (k : Int) = 0 := by decide +kernel
theorem mul_c {m : Mem} {n k : Nat} (hk : k ≤ 32) {Q : Value → Mem → Nat → Prop} (hq : Q (.tuple ⟨[.int .u64 0, .int .u64 k]⟩) m n) : Wc Try.prog fMathbitsMul [.int .u64 ((1 : Nat) : Int), .int .u64 (k : Int)] m n Q := by
  refine Wc_of mixed (cfg := xcfg) (fuel := 400) ?_
  rw [xMathbitsMul]
  refine Wc_of mixed (cfg := xcfg) (fuel := 400) ?_
  rw [xMathbitsMul64]
  refine ⟨by decide, by decide, by decide, by decide, by decide, ?_⟩
  show ∃ x3 x4, Value.tuple ⟨[.int .u64 (hiF ((1 : Nat) : Int) k), .int .u64 (IntKind.u64.wrap (((1 : Nat) : Int) * (k : Int)))]⟩ = .tuple ⟨[.int .u64 x3, .int .u64 x4]⟩ ∧ Later (Q (.tuple ⟨[.int .u64 x3, .int .u64 x4]⟩) m n)
  rw [hiF_0 k (by omega), show ((1 : Nat) : Int) * (k : Int) = (k : Int) by omega, wrapU (by omega)]
  exact ⟨_, _, rfl, Later.mk hq⟩

theorem szInt : szOf Try.prog tInt = some 1 := by kernel_rfl
theorem undLint : Try.prog.underlying tLint = some (.slice tInt) := by kernel_rfl
theorem copyV_int {m m' : Mem} {n i o len cap k kcap : Nat} {sp : Option Nat} {b : Option Addr} {cs : List Value} (hs : sliceCells m 1 (min k len) (.slice b k kcap) = some cs) (hne : min k len ≠ 0) (hc : 0 < cap) (hst : storeCs m i (offOf o sp) cs = some m') :
    copyV Try.prog m n tLint (some ⟨i, o, sp⟩) len cap b k kcap = .val (vi (min k len : Nat)) m' n := by
  simp only [copyV, undLint, szInt, hs]
  rw [if_neg hne, if_pos hc, hst]
def repC (j N : Nat) : List Value := List.replicate j (vi (-1)) ++ List.replicate (N - j) (vi 0)
theorem repC_store {j N k : Nat} (h : j + k ≤ N) : (repC j N).take j ++ (List.replicate k (vi (-1)) ++ (repC j N).drop (j + k)) = repC (j + k) N := by
  unfold repC
  rw [List.take_append_of_le_length (by simp [-Bool.exists_bool]), List.take_of_length_le (by simp [-Bool.exists_bool]), List.drop_append, List.drop_of_length_le (by simp [-Bool.exists_bool])]
  simp only [List.length_replicate, List.nil_append, List.drop_replicate]
  rw [← List.append_assoc, List.replicate_append_replicate]
  congr 2
  omega
theorem repeat_loop {w N : Nat} (hN : N ≤ 32) : ∀ (k j : Nat) (m : Mem) (n : Nat), N - j ≤ k → 0 < j → j ≤ N → w < n → m.get w = some (.cells none tInt 1 (repC j N)) →
    ∃ m' n', m'.get w = some (.cells none tInt 1 ((List.replicate N (-1)).map vi)) ∧ n ≤ n' ∧ (∀ i, i ≠ w → m'.get i = m.get i) ∧ ∀ Q : Value → Mem → Nat → Prop, Q (.slice (some ⟨w, 0, none⟩) N N) m' n' →
      W Try.prog { fn := fSlicesRepeatLintint, nt := 48, slots := [(7, .slice (some ⟨w, 0, none⟩) N N), (8, vi j)], todo := pt Try.prog fSlicesRepeatLintint [1, 1, 1, 1, 1, 1, 0, 0, 0] } m n Q := by
  intro k
  induction k with
  | zero =>
    intro j m n hk h0 hj hw hg
    obtain rfl : j = N := by omega
    refine ⟨m, n, by rw [hg]; simp [-Bool.exists_bool, repC], Nat.le_refl _, fun _ _ => rfl, fun Q hq => ?_⟩
    refine W_of mixed (cfg := xcfg) (fuel := 400) ?_
    rw [xSlicesRepeatLintintk2]
    exact condDF (by omega) hq
  | succ k ih =>
    intro j m n hk h0 hj hw hg
    by_cases hjN : j = N
    · exact ih j m n (by omega) h0 hj hw hg
    · have hlen : (repC j N).length = N := by simp [-Bool.exists_bool, repC]; omega
      have hmin : 0 < min j (N - j) := by omega
      have hrd : sliceCells m 1 (min j (N - j)) (.slice (some ⟨w, 0, none⟩) j N) = some (List.replicate (min j (N - j)) (vi (-1))) := by
        have : (repC j N).take (min j (N - j)) = List.replicate (min j (N - j)) (vi (-1)) := by
          rw [repC, List.take_append_of_le_length (by simp; omega), List.take_replicate]; congr 1; omega
        simp only [sliceCells, cellsOf, hg]
        rw [if_pos (Nat.min_le_left _ _)]
        simp [-Bool.exists_bool, takeAt, hlen, this]; omega
      have hst := store_of (off := j) (vs := List.replicate (min j (N - j)) (vi (-1))) hg (by rw [hlen, List.length_replicate]; omega) (by simp [-Bool.exists_bool, cellOk])
      rw [List.length_replicate, repC_store (by omega)] at hst
      generalize hm1 : m.set w (.cells none tInt 1 (repC (j + min j (N - j)) N)) = m1 at hst
      obtain ⟨m', n', a1, a2, a3, run⟩ := ih (j + min j (N - j)) m1 (n + 10) (by omega) (by omega) (by omega) (by omega) (by rw [← hm1]; simp [-Bool.exists_bool, Tr.get_set])
      refine ⟨m', n', a1, by omega, fun i hi => by rw [a3 i hi, ← hm1, Tr.get_set, if_neg (fun e => hi e.symm)], fun Q hq => ?_⟩
      refine W_of mixed (cfg := xcfg) (fuel := 400) ?_
      rw [xSlicesRepeatLintintk2]
      have e1 : (if N = (j : Int).toNat then 0 else 0 + (j : Int).toNat * 1) = j := by rw [if_neg (by omega)]; omega
      have e2 : (if N = 0 then 0 else 0 + 0) = 0 := by split <;> rfl
      have e3 : IntKind.i64.wrap ((j : Int) + ((min j (N - j) : Nat) : Int)) = ((j + min j (N - j) : Nat) : Int) := by rw [wrap_id (by omega) (by omega)]; omega
      refine condDT (by omega) ⟨⟨by omega, by omega⟩, ⟨by omega, by omega⟩, ((min j (N - j) : Nat) : Int), m1, ?_, Nat.le_refl _, ?_⟩
      · rw [e1, e2]
        exact copyV_int hrd (by omega) (by omega) hst
      · rw [e3]
        exact run Q hq
theorem repeat_c {m : Mem} {n k N : Nat} (hN : N ≤ 32) (h0 : 1 ≤ N) (hk : m.get k = some (.cells none tInt 1 [vi (-1)])) (hkn : k < n) :
    ∃ m' n' a, Ow m' n n' tInt 1 a N N ((List.replicate N (-1)).map vi) ∧ Le m n m' n' ∧ (Fs m n → Fs m' n') ∧ Exact Try.prog fSlicesRepeatLintint [.slice (some ⟨k, 0, none⟩) 1 1, vi N] m n (.slice a N N) m' n' := by
  have hz : (List.replicate N [vi 0]).flatten = repC 0 N := by simp [-Bool.exists_bool, repC]
  generalize hm0 : m.set n (.cells none tInt 1 (repC 0 N)) = m0
  have g0 : m0.get n = some (.cells none tInt 1 (repC 0 N)) := by rw [← hm0]; simp [-Bool.exists_bool, Tr.get_set]
  have hlen : (repC 0 N).length = N := by simp [-Bool.exists_bool, repC]
  have hst := store_of (off := 0) (vs := [vi (-1)]) g0 (by simp [-Bool.exists_bool, hlen]; omega) (by simp [-Bool.exists_bool, cellOk])
  have hr := repC_store (j := 0) (N := N) (k := 1) (by omega)
  simp only [List.replicate_one] at hr
  simp only [List.length_singleton] at hst
  rw [hr] at hst
  generalize hm1 : m0.set n (.cells none tInt 1 (repC (0 + 1) N)) = m1 at hst
  have k1 : ∀ i, i ≠ n → m1.get i = m.get i := fun i hi => by rw [← hm1, Tr.get_set, if_neg (fun e => hi e.symm), ← hm0, Tr.get_set, if_neg (fun e => hi e.symm)]
  obtain ⟨m', n', a1, a2, a3, run⟩ := repeat_loop (w := n) hN N 1 m1 (n + 1) (by omega) (by omega) h0 (by omega) (by rw [← hm1]; simp [-Bool.exists_bool, Tr.get_set])
  have hsame : ∀ i, i ≠ n → m'.get i = m.get i := fun i hi => (a3 i hi).trans (k1 i hi)
  refine ⟨m', n', some ⟨n, 0, none⟩, ⟨rfl, by simp, .inr ⟨n, 0, none, _, rfl, Nat.le_refl _, by omega, a1, by simp, by simp⟩⟩, ⟨by omega, fun i hi => hsame i (by omega)⟩, fun hf i hi => by rw [hsame i (by omega)]; exact hf i (by omega), fun Q hq => ?_⟩
  refine Wc_of mixed (cfg := xcfg) (fuel := 400) ?_
  rw [xSlicesRepeatLintint]
  refine condDF (by omega) ?_
  refine W_of1 mixed (cfg := xcfg) (fuel := 400) ?_
  rw [xSlicesRepeatLintintk0, wrapU (k := 1) (by omega), wrapU (k := N) (by omega)]
  refine mul_c hN ⟨_, _, rfl, Later.mk (condDF (by omega) (condDF (by omega) ?_))⟩
  refine W_of1 mixed (cfg := xcfg) (fuel := 400) ?_
  have hw : IntKind.i64.wrap (N : Int) = N := wrap_id (by omega) (by omega)
  rw [xSlicesRepeatLintintk1, hw]
  refine ⟨⟨by omega, by omega, by omega⟩, memLet.mk fun mm e => ?_⟩
  have e : mm = m0 := by rw [e, ← hm0, ← hz]; rfl
  subst e
  have hmin : min 1 N = 1 := by omega
  refine ⟨((min 1 N : Nat) : Int), m1, copyV_int (cs := [vi (-1)]) ?_ (by omega) (by show 0 < N; omega) hst, ?_⟩
  · have gk : mm.get k = some (.cells none tInt 1 [vi (-1)]) := by rw [← hm0, Tr.get_set, if_neg (by omega)]; exact hk
    show sliceCells mm 1 (min 1 N) (.slice (some ⟨k, 0, none⟩) 1 1) = _
    rw [hmin]; exact one_cell gk
  · rw [hmin]
    exact run Q hq
end Go.Proofs.Ytiomjekkmjinbaa

set_option maxRecDepth 100000
namespace Go.Proofs.Ytiomjekkmjinbaa
open Go Go.Ab Spf

theorem ne_get {m : Mem} {i j T T' sz sz' : Nat} {ro ro' : Option Bool} {cs cs' : List Value} (h : m.get i = some (.cells ro T sz cs)) (k : m.get j = some (.cells ro' T' sz' cs')) (hT : T ≠ T') : i ≠ j := by
  rintro rfl
  rw [h] at k
  simp only [Option.some.injEq, AObj.cells.injEq] at k
  exact hT k.2.1
theorem notC {m : Mem} {Y fn nt ds : Nat} {sl : Slots} {st : LoopState} {p : Option Code} {todo : List Item} (h : m.get Y = some (loopO fn nt sl st p todo ds)) : isC m Y = false := by
  unfold isC; rw [h]; unfold loopO; split <;> simp_all <;> (split at * <;> simp_all)
theorem notD {m : Mem} {c : Nat} {d : Option (List Deferred)} (h : m.get c = some (.deferred d)) : isC m c = false := by
  unfold isC; rw [h]

/-- The loop of a filter: the rounds in which a flag is set. -/
theorem filter_loop {X : List (Lk × Bool)} {Y t2 : Nat} {la ua : Option Addr} {lc uc : Nat} (hX : X.length ≤ 100000) (I : Nat → Mem → Nat → Prop)
    (rdL : ∀ j m n, I j m n → Sl m n la lc ((X.map (·.1)).flatMap encL))
    (rdU : ∀ j m n, I j m n → m.get t2 = some (.cells none tLbool 1 [.slice ua X.length uc]) ∧ t2 < n ∧ Sl m n ua uc ((X.map (·.2)).map Value.bool))
    (ext : ∀ j m n m' n', I j m n → Le m n m' n' → (Fs m n → Fs m' n') → I j m' n')
    (skip : ∀ j l m n, X[j]? = some (l, false) → I j m n → I (j + 1) m n)
    (step : ∀ j l m n, X[j]? = some (l, true) → I j m n → ∃ m' n', I (j + 1) m' n' ∧ n ≤ n' ∧ ∀ Q : Value → Mem → Nat → Prop, Q (.bool true) m' n' → ∃ fr, roundA m Y [vi j, .agg ⟨encL l⟩] = some fr ∧ W Try.prog fr m n Q) :
    ∀ k j m n, j + k = X.length → I j m n → ∃ m' n', I X.length m' n' ∧ n ≤ n' ∧ ∀ Q : Value → Mem → Nat → Prop, Q (.tuple ⟨[]⟩) m' n' →
      W Try.prog { fn := fSpffilterapiLink1, nt := 25, slots := [(0, .func (.yield Y) ⟨[]⟩ ⟨[]⟩), (2, pp t2), (6, .slice la X.length lc), (7, .int .i64 X.length), (8, vi j)], todo := pt Try.prog fSpffilterapiLink1 [1, 0, 0] } m n Q := by
  intro k
  induction k with
  | zero =>
    intro j m n h hI
    obtain rfl : j = X.length := by omega
    refine ⟨m, n, hI, Nat.le_refl _, fun Q hq => ?_⟩
    refine W_of mixed (cfg := xcfg) (fuel := 400) ?_
    rw [xSpffilterapiLink1k0]
    exact condDF (by omega) hq
  | succ k ih =>
    intro j m n h hI
    have hlt : j < X.length := by omega
    have hw := wrapN (k := j) (by omega)
    generalize hm1 : (m.set n (.cells none tApiLink 3 [.int .i64 0, .int .i64 0, .int .i64 0])).set n (.cells none tApiLink 3 (encL X[j].1)) = m1
    have k1 : ∀ i, i ≠ n → m1.get i = m.get i := fun i hi => by rw [← hm1, Tr.get_set, if_neg (fun e => hi e.symm), Tr.get_set, if_neg (fun e => hi e.symm)]
    have g1 : m1.get n = some (.cells none tApiLink 3 (encL X[j].1)) := by rw [← hm1]; simp [-Bool.exists_bool, Tr.get_set]
    have hst : storeCs (m.set n (.cells none tApiLink 3 [.int .i64 0, .int .i64 0, .int .i64 0])) n 0 (encL X[j].1) = some m1 := by
      have := store_of (m := m.set n (.cells none tApiLink 3 [.int .i64 0, .int .i64 0, .int .i64 0])) (b := n) (off := 0) (vs := encL X[j].1) (T := tApiLink) (sz := 3) (cs := [.int .i64 0, .int .i64 0, .int .i64 0]) (by simp [-Bool.exists_bool, Tr.get_set]) (by simp [-Bool.exists_bool]) (by simp [-Bool.exists_bool, encL, cellOk])
      rw [this, ← hm1]
      simp [-Bool.exists_bool, encL]
    have hle1 : Le m n m1 (n + 1) := ⟨by omega, fun i hi => k1 i (by omega)⟩
    have hI1 : I j m1 (n + 1) := ext j m n m1 (n + 1) hI hle1 fun hf i hi => by rw [k1 i (by omega)]; exact hf i (by omega)
    obtain ⟨gu, _, su⟩ := rdU j m1 (n + 1) hI1
    have sl := rdL j m n hI
    have enter : ∀ Q : Value → Mem → Nat → Prop, (bif X[j].2 then ∃ x15 x16 x17, rds m1 n 0 3 = some [vi x15, vi x16, vi x17] ∧ ∃ y18 : AFrame, roundA m1 Y [vi j, .agg ⟨[vi x15, vi x16, vi x17]⟩] = some y18 ∧ W Try.prog y18 m1 (n + 1) fun v19 m20 k21 => ∃ b22 : Bool, v19 = .bool b22 ∧ Later (bif !b22 then Q (.tuple ⟨[]⟩) m20 k21 else
          W Try.prog { fn := fSpffilterapiLink1, nt := 25, slots := [(0, .func (.yield Y) ⟨[]⟩ ⟨[]⟩), (2, pp t2), (6, .slice la X.length lc), (7, .int .i64 X.length), (8, vi ((j + 1 : Nat) : Int))], todo := pt Try.prog fSpffilterapiLink1 [1, 0, 0] } m20 k21 Q)
        else W Try.prog { fn := fSpffilterapiLink1, nt := 25, slots := [(0, .func (.yield Y) ⟨[]⟩ ⟨[]⟩), (2, pp t2), (6, .slice la X.length lc), (7, .int .i64 X.length), (8, vi ((j + 1 : Nat) : Int))], todo := pt Try.prog fSpffilterapiLink1 [1, 0, 0] } m1 (n + 1) Q) →
        W Try.prog { fn := fSpffilterapiLink1, nt := 25, slots := [(0, .func (.yield Y) ⟨[]⟩ ⟨[]⟩), (2, pp t2), (6, .slice la X.length lc), (7, .int .i64 X.length), (8, vi j)], todo := pt Try.prog fSpffilterapiLink1 [1, 0, 0] } m n Q := by
      intro Q hq
      refine W_of mixed (cfg := xcfg) (fuel := 400) ?_
      rw [xSpffilterapiLink1k0, hw]
      have hL : (X.map (·.1)).length = X.length := by simp [-Bool.exists_bool]
      have hU : (X.map (·.2)).length = X.length := by simp [-Bool.exists_bool]
      have key := sl.ldv encL_len (i := j) (by rw [hL]; exact hlt) (by omega) (K := fun b o s => ∃ x3 x4 x5, rds m b (offOf o s + (j : Int).toNat * 3) 3 = some [vi x3, vi x4, vi x5] ∧ memLet (m.set n (.cells none tApiLink 3 [.int .i64 0, .int .i64 0, .int .i64 0])) fun m6 => ∃ m7, storeCs m6 n 0 [vi x3, vi x4, vi x5] = some m7 ∧ ∃ p8 k9 k10, rd m7 t2 0 = some (.slice p8 k9 k10) ∧
          elimA p8 False fun k11 k12 p13 => (0 ≤ (j : Int) ∧ (j : Int) < (k9 : Int) ∧ liveAt m7 k11 = true ∧ (p13 ≠ none → 0 < k10)) ∧ ∃ b14 : Bool, rd m7 k11 (offOf k12 p13 + (j : Int).toNat * 1) = some (.bool b14) ∧ bif b14 then ∃ x15 x16 x17, rds m7 n 0 3 = some [vi x15, vi x16, vi x17] ∧ ∃ y18 : AFrame, roundA m7 Y [vi j, .agg ⟨[vi x15, vi x16, vi x17]⟩] = some y18 ∧ W Try.prog y18 m7 (n + 1) fun v19 m20 k21 => ∃ b22 : Bool, v19 = .bool b22 ∧ Later (bif !b22 then Q (.tuple ⟨[]⟩) m20 k21 else
            W Try.prog { fn := fSpffilterapiLink1, nt := 25, slots := [(0, .func (.yield Y) ⟨[]⟩ ⟨[]⟩), (2, pp t2), (6, .slice la X.length lc), (7, .int .i64 X.length), (8, vi ((j + 1 : Nat) : Int))], todo := pt Try.prog fSpffilterapiLink1 [1, 0, 0] } m20 k21 Q)
          else W Try.prog { fn := fSpffilterapiLink1, nt := 25, slots := [(0, .func (.yield Y) ⟨[]⟩ ⟨[]⟩), (2, pp t2), (6, .slice la X.length lc), (7, .int .i64 X.length), (8, vi ((j + 1 : Nat) : Int))], todo := pt Try.prog fSpffilterapiLink1 [1, 0, 0] } m7 (n + 1) Q) fun b o s _ _ r1 => by
        refine ⟨X[j].1.a, X[j].1.b, X[j].1.c, ?_, memLet.mk fun mm e => ⟨m1, by rw [e]; exact hst, _, _, _, rd_of gu rfl, ?_⟩⟩
        · rw [List.getElem_map] at r1; exact r1
        · have := su.ldb (i := j) (by rw [hU]; exact hlt) (K := fun b14 => bif b14 then ∃ x15 x16 x17, rds m1 n 0 3 = some [vi x15, vi x16, vi x17] ∧ ∃ y18 : AFrame, roundA m1 Y [vi j, .agg ⟨[vi x15, vi x16, vi x17]⟩] = some y18 ∧ W Try.prog y18 m1 (n + 1) fun v19 m20 k21 => ∃ b22 : Bool, v19 = .bool b22 ∧ Later (bif !b22 then Q (.tuple ⟨[]⟩) m20 k21 else
            W Try.prog { fn := fSpffilterapiLink1, nt := 25, slots := [(0, .func (.yield Y) ⟨[]⟩ ⟨[]⟩), (2, pp t2), (6, .slice la X.length lc), (7, .int .i64 X.length), (8, vi ((j + 1 : Nat) : Int))], todo := pt Try.prog fSpffilterapiLink1 [1, 0, 0] } m20 k21 Q)
            else W Try.prog { fn := fSpffilterapiLink1, nt := 25, slots := [(0, .func (.yield Y) ⟨[]⟩ ⟨[]⟩), (2, pp t2), (6, .slice la X.length lc), (7, .int .i64 X.length), (8, vi ((j + 1 : Nat) : Int))], todo := pt Try.prog fSpffilterapiLink1 [1, 0, 0] } m1 (n + 1) Q) (by rw [List.getElem_map]; exact hq)
          rw [hU] at this
          exact this
      rw [hL] at key
      exact condDT (by omega) key
    cases hu : X[j].2 with
    | false =>
      obtain ⟨m', n', h1, h2, run⟩ := ih (j + 1) m1 (n + 1) (by omega) (skip j X[j].1 m1 (n + 1) (by rw [List.getElem?_eq_getElem hlt, ← hu]) hI1)
      exact ⟨m', n', h1, by omega, fun Q hq => enter Q (by rw [hu]; exact run Q hq)⟩
    | true =>
      obtain ⟨m2, n2, h1, h2, run1⟩ := step j X[j].1 m1 (n + 1) (by rw [List.getElem?_eq_getElem hlt, ← hu]) hI1
      obtain ⟨m', n', h3, h4, run⟩ := ih (j + 1) m2 n2 (by omega) h1
      refine ⟨m', n', h3, by omega, fun Q hq => enter Q ?_⟩
      rw [hu]
      obtain ⟨fr, e1, e2⟩ := run1 (fun v19 m20 k21 => ∃ b22 : Bool, v19 = .bool b22 ∧ Later (bif !b22 then Q (.tuple ⟨[]⟩) m20 k21 else
          W Try.prog { fn := fSpffilterapiLink1, nt := 25, slots := [(0, .func (.yield Y) ⟨[]⟩ ⟨[]⟩), (2, pp t2), (6, .slice la X.length lc), (7, .int .i64 X.length), (8, vi ((j + 1 : Nat) : Int))], todo := pt Try.prog fSpffilterapiLink1 [1, 0, 0] } m20 k21 Q)) ⟨true, rfl, Later.mk (run Q hq)⟩
      exact ⟨_, _, _, rds_of g1, fr, e1, e2⟩
end Go.Proofs.Ytiomjekkmjinbaa

set_option maxRecDepth 100000
namespace Go.Proofs.Ytiomjekkmjinbaa
open Go Go.Ab Spf

/-- The state of Dist. -/
structure DS (m0 : Mem) (n0 : Nat) (m : Mem) (n : Nat) (fl : List Nat) (o qv q b : Nat) (oa : Option Addr) (d : List Int) (s : Option Nat) (c : Nat) (T : List (Int × Int)) (gg : List Value) : Prop where
  le : Le m0 n0 m n
  fs : Fs m0 n0 → Fs m n
  go : m.get o = some (.cells none tLint 1 [.slice oa d.length d.length])
  gq : m.get qv = some (.cells none tPspfqueue 1 [pp q])
  ow : Ow m n0 n tInt 1 oa d.length d.length (d.map vi)
  qu : Qu m n q b s c T gg
  hp : Heap T
  fx : ∀ i, i ∈ fl → n0 ≤ i ∧ i < n ∧ i ≠ q ∧ i ≠ b
  lo : n0 ≤ o ∧ o < n
  lqv : n0 ≤ qv ∧ qv < n
  lq : n0 ≤ q
  lb : n0 ≤ b
section
variable {m0 m m' : Mem} {n0 n n' : Nat} {fl : List Nat} {o qv q b b' : Nat} {oa : Option Addr} {d : List Int} {s s' : Option Nat} {c c' : Nat} {T T' : List (Int × Int)} {gg gg' : List Value}
theorem DS.oab (h : DS m0 n0 m n fl o qv q b oa d s c T gg) {i : Nat} {f : Nat} {sp : Option Nat} (e : oa = some ⟨i, f, sp⟩) : n0 ≤ i ∧ i < n ∧ i ≠ q ∧ i ≠ b := by
  obtain ⟨_, _, h3⟩ := h.ow
  rcases h3 with ⟨h3, _⟩ | ⟨b1, o1, s1, full, g1, g2, g3, g4, _⟩
  · rw [h3] at e; cases e
  · rw [g1] at e; cases e
    exact ⟨g2, g3, ne_get g4 h.qu.get (by decide), ne_get g4 h.qu.dat (by decide)⟩
theorem DS.heap (h : DS m0 n0 m n fl o qv q b oa d s c T gg) (st : Stp m n q b m' n' b') (hq : Qu m' n' q b' s' c' T' gg') (hp : Heap T') : DS m0 n0 m' n' fl o qv q b' oa d s' c' T' gg' ∧ ∀ i ∈ fl, m'.get i = m.get i := by
  have k := st.same
  have hl := st.le
  have h0 := h.le.le
  have e1 : o ≠ q ∧ o ≠ b := ⟨ne_get h.go h.qu.get (by decide), ne_get h.go h.qu.dat (by decide)⟩
  have e2 : qv ≠ q ∧ qv ≠ b := ⟨ne_get h.gq h.qu.get (by decide), ne_get h.gq h.qu.dat (by decide)⟩
  have hlq := h.lq
  have hlb := h.lb
  refine ⟨⟨⟨by omega, fun i hi => (k i (by omega) (by omega) (by omega)).trans (h.le.same i hi)⟩, fun hf => st.fs (h.fs hf), (k o h.lo.2 e1.1 e1.2).trans h.go, (k qv h.lqv.2 e2.1 e2.2).trans h.gq, ?_, hq, hp, fun i hi => ?_, ⟨h.lo.1, by have := h.lo.2; omega⟩, ⟨h.lqv.1, by have := h.lqv.2; omega⟩, h.lq, ?_⟩, fun i hi => ?_⟩
  · exact h.ow.same hl fun b1 o1 s1 e => by obtain ⟨_, a2, a3, a4⟩ := h.oab e; exact k b1 a2 a3 a4
  · obtain ⟨a1, a2, a3, a4⟩ := h.fx i hi
    exact ⟨a1, by omega, a3, by rcases st.blk with e | e; (· rw [e]; exact a4); (· omega)⟩
  · rcases st.blk with e | e; (· rw [e]; exact h.lb); (· omega)
  · obtain ⟨a1, a2, a3, a4⟩ := h.fx i hi
    exact k i a2 a3 a4
theorem DS.ext (h : DS m0 n0 m n fl o qv q b oa d s c T gg) (l : Le m n m' n') (f : Fs m n → Fs m' n') : DS m0 n0 m' n' fl o qv q b oa d s c T gg := by
  have hl := l.le
  exact ⟨h.le.trans l, fun hf => f (h.fs hf), l.get h.lo.2 h.go, l.get h.lqv.2 h.gq, h.ow.le l, h.qu.same hl (l.same _ h.qu.lq) (l.same _ h.qu.lb), h.hp, fun i hi => ⟨(h.fx i hi).1, by have := (h.fx i hi).2.1; omega, (h.fx i hi).2.2⟩,
    ⟨h.lo.1, by have := h.lo.2; omega⟩, ⟨h.lqv.1, by have := h.lqv.2; omega⟩, h.lq, h.lb⟩
theorem DS.keep (h : DS m0 n0 m n fl o qv q b oa d s c T gg) (k : KeepC m m') (l : ∀ i, i < n0 → m'.get i = m.get i) (f : Fs m n → Fs m' n) : DS m0 n0 m' n fl o qv q b oa d s c T gg :=
  ⟨⟨h.le.le, fun i hi => (l i hi).trans (h.le.same i hi)⟩, fun hf => f (h.fs hf), (k _ (isC_of h.go)).trans h.go, (k _ (isC_of h.gq)).trans h.gq, h.ow.keep (Nat.le_refl _) k, h.qu.same (Nat.le_refl _) (k _ (isC_of h.qu.get)) (k _ (isC_of h.qu.dat)), h.hp, h.fx, h.lo, h.lqv, h.lq, h.lb⟩
theorem DS.fls (h : DS m0 n0 m n fl o qv q b oa d s c T gg) {fl' : List Nat} (k : ∀ i ∈ fl', i ∈ fl ∨ (n0 ≤ i ∧ i < n ∧ i ≠ q ∧ i ≠ b)) : DS m0 n0 m n fl' o qv q b oa d s c T gg :=
  ⟨h.le, h.fs, h.go, h.gq, h.ow, h.qu, h.hp, fun i hi => (k i hi).elim (h.fx i) id, h.lo, h.lqv, h.lq, h.lb⟩

/-- The loop's block over the links. -/
@[reducible] noncomputable def dSL (la ua : Option Addr) (ll lc ul uc o qv x t1 t2 : Nat) : Slots := [(1, .slice la ll lc), (2, .slice ua ul uc), (9, pp o), (10, pp qv), (11, pp x), (52, .func (.func fSpffilterapiLink1) ⟨[]⟩ ⟨[pp t1, pp t2]⟩)]
@[reducible] noncomputable def dPT : List Item := pt Try.prog fSpfDist [1, 1, 1, 1, 0, 0, 0, 1, 0, 1, 1, 1, 1, 0]
theorem dPT_ok : rfOk 80 dPT 2 = true := by kernel_rfl

structure DI1 (g : G) (f : Nat) (m0 : Mem) (n0 : Nat) (m1 : Mem) (bs : List Nat) (x t2 dn Y o qv q : Nat) (SL : Slots) (oa : Option Addr) (d : List Int) (y L0 : Nat) (j : Nat) (m : Mem) (n : Nat) : Prop where
  ds : ∃ b s c T gg, DS m0 n0 m n (x :: t2 :: dn :: Y :: bs) o qv q b oa d s c T gg ∧ T.length ≤ L0 + j ∧ DI g f y j d T
  old : ∀ i, i ∈ x :: t2 :: dn :: bs → m.get i = m1.get i
  gY : m.get Y = some (loopO fSpfDist 80 SL .ready none dPT dn)
theorem DI1.ext {g : G} {f : Nat} {m1 : Mem} {bs : List Nat} {x t2 dn Y : Nat} {SL : Slots} {y L0 j : Nat} (h : DI1 g f m0 n0 m1 bs x t2 dn Y o qv q SL oa d y L0 j m n) (l : Le m n m' n') (fs : Fs m n → Fs m' n') : DI1 g f m0 n0 m1 bs x t2 dn Y o qv q SL oa d y L0 j m' n' := by
  obtain ⟨b, s, c, T, gg, h1, h2, h3⟩ := h.ds
  refine ⟨⟨b, s, c, T, gg, h1.ext l fs, h2, h3⟩, fun i hi => ?_, ?_⟩
  · rw [l.same i (h1.fx i (by simp only [List.mem_cons] at hi ⊢; rcases hi with h | h | h | h <;> simp [-Bool.exists_bool, h])).2.1]; exact h.old i hi
  · rw [l.same Y (h1.fx Y (by simp [-Bool.exists_bool])).2.1]; exact h.gY

/-- A round over the links. -/
theorem dist_round {g : G} (hg : g.Ok) {f : Nat} {m1 : Mem} {bs : List Nat} {x t1 t2 dn Y : Nat} {la ua : Option Addr} {ll lc ul uc : Nat} {y L0 : Nat} (hL0 : L0 ≤ 20000) (hgx : m1.get x = some (.cells none tSpffar 2 (encF ((y : Int), gd d y)))) (hy : 0 ≤ gd d y) (hy2 : ∀ v, gd d v ≤ gd d y) (hYd : Y ≠ dn) (hYt : Y ≠ t2) (hYx : Y ≠ x) (hYb : Y ∉ bs)
    {j : Nat} {l : Lk} (hj : g.X[j]? = some (l, true)) (h : DI1 g f m0 n0 m1 bs x t2 dn Y o qv q (dSL la ua ll lc ul uc o qv x t1 t2) oa d y L0 j m n) :
    ∃ m' n', DI1 g f m0 n0 m1 bs x t2 dn Y o qv q (dSL la ua ll lc ul uc o qv x t1 t2) oa d y L0 (j + 1) m' n' ∧ n ≤ n' ∧ ∀ Q : Value → Mem → Nat → Prop, Q (.bool true) m' n' → ∃ fr, roundA m Y [vi j, .agg ⟨encL l⟩] = some fr ∧ W Try.prog fr m n Q := by
  have hmany := hg.many
  have hjl := (List.getElem?_eq_some_iff.1 hj).1
  have hlk := hg.at hj
  -- the copy of the link
  generalize hm1 : (m.set n (.cells none tApiLink 3 [.int .i64 0, .int .i64 0, .int .i64 0])).set n (.cells none tApiLink 3 (encL l)) = ma
  have ka : ∀ i, i ≠ n → ma.get i = m.get i := fun i hi => by rw [← hm1, Tr.get_set, if_neg (fun e => hi e.symm), Tr.get_set, if_neg (fun e => hi e.symm)]
  have ga : ma.get n = some (.cells none tApiLink 3 (encL l)) := by rw [← hm1]; simp [-Bool.exists_bool, Tr.get_set]
  have hst : storeCs (m.set n (.cells none tApiLink 3 [.int .i64 0, .int .i64 0, .int .i64 0])) n 0 (encL l) = some ma := by
    have := store_of (m := m.set n (.cells none tApiLink 3 [.int .i64 0, .int .i64 0, .int .i64 0])) (b := n) (off := 0) (vs := encL l) (T := tApiLink) (sz := 3) (cs := [.int .i64 0, .int .i64 0, .int .i64 0]) (by simp [-Bool.exists_bool, Tr.get_set]) (by simp [-Bool.exists_bool]) (by simp [-Bool.exists_bool, encL, cellOk])
    rw [this, ← hm1]
    simp [-Bool.exists_bool, encL]
  have hla : Le m n ma (n + 1) := ⟨by omega, fun i hi => ka i (by omega)⟩
  have ha := h.ext hla fun hf i hi => by rw [ka i (by omega)]; exact hf i (by omega)
  have hYa := ha.gY
  generalize hm3 : ma.set Y (loopO fSpfDist 80 (dSL la ua ll lc ul uc o qv x t1 t2) .busy none dPT dn) = m3
  have k3 : KeepC ma m3 := by rw [← hm3]; exact KeepC.refl.set (notC hYa)
  have o3 : ∀ i, i ≠ Y → m3.get i = ma.get i := fun i hi => by rw [← hm3, Tr.get_set, if_neg (fun e => hi e.symm)]
  have gY3 : m3.get Y = some (loopO fSpfDist 80 (dSL la ua ll lc ul uc o qv x t1 t2) .busy none dPT dn) := by rw [← hm3]; simp [-Bool.exists_bool, Tr.get_set]
  obtain ⟨b, s, c, T, gg, d1, d2, d3⟩ := ha.ds
  have fY := d1.fx Y (by simp [-Bool.exists_bool])
  have d3' : DS m0 n0 m3 (n + 1) (x :: t2 :: dn :: Y :: bs) o qv q b oa d s c T gg := d1.keep k3 (fun i hi => o3 i (by omega)) (fun hf => by rw [← hm3]; exact hf.in_ fY.2.1)
  have gx3 : m3.get x = some (.cells none tSpffar 2 (encF ((y : Int), gd d y))) := by rw [o3 x (Ne.symm hYx), ha.old x (by simp [-Bool.exists_bool])]; exact hgx
  have gl3 : m3.get n = some (.cells none tApiLink 3 (encL l)) := (o3 n (by
    have hb := (h.ds)
    obtain ⟨_, _, _, _, _, e1, _⟩ := hb
    have := (e1.fx Y (by simp [-Bool.exists_bool])).2.1
    omega)).trans ga
  -- common end: the round's block is ready again
  have fin : ∀ (m4 : Mem) (n4 : Nat) (b' : Nat) (s' : Option Nat) (c' : Nat) (T' : List (Int × Int)) (gg' : List Value), n + 1 ≤ n4 → DS m0 n0 m4 n4 (x :: t2 :: dn :: Y :: bs) o qv q b' oa d s' c' T' gg' → T'.length ≤ L0 + (j + 1) → DI g f y (j + 1) d T' → (∀ i ∈ x :: t2 :: dn :: Y :: bs, m4.get i = m3.get i) →
      ∃ m5, m4.set Y (loopO fSpfDist 80 (dSL la ua ll lc ul uc o qv x t1 t2) .ready none dPT dn) = m5 ∧ m4.get Y = some (loopO fSpfDist 80 (dSL la ua ll lc ul uc o qv x t1 t2) .busy none dPT dn) ∧ DI1 g f m0 n0 m1 bs x t2 dn Y o qv q (dSL la ua ll lc ul uc o qv x t1 t2) oa d y L0 (j + 1) m5 n4 := by
    intro m4 n4 b' s' c' T' gg' hn e1 e2 e3 e4
    have gY4 := (e4 Y (by simp [-Bool.exists_bool])).trans gY3
    refine ⟨_, rfl, gY4, ⟨⟨b', s', c', T', gg', e1.keep (KeepC.refl.set (notC gY4)) (fun i hi => ?_) (fun hf => hf.in_ (e1.fx Y (by simp [-Bool.exists_bool])).2.1), e2, e3⟩, fun i hi => ?_, by simp [-Bool.exists_bool, Tr.get_set]⟩⟩
    · rw [Tr.get_set, if_neg (by have := (e1.fx Y (by simp [-Bool.exists_bool])).1; omega)]
    · have hiY : i ≠ Y := by
        simp only [List.mem_cons] at hi
        rcases hi with e | e | e | e
        · rw [e]; exact Ne.symm hYx
        · rw [e]; exact Ne.symm hYt
        · rw [e]; exact Ne.symm hYd
        · rintro rfl; exact hYb e
      rw [Tr.get_set, if_neg (fun e => hiY e.symm), e4 i (by simp only [List.mem_cons] at hi ⊢; rcases hi with h | h | h | h <;> simp [-Bool.exists_bool, h]), o3 i hiY]
      exact ha.old i hi
  -- entering
  have enter : ∀ (Q : Value → Mem → Nat → Prop), (bif decide (other l y ≥ 0) then ∃ p12 k13 k14, rd m3 o 0 = some (.slice p12 k13 k14) ∧ elimA p12 False fun k15 k16 p17 => (0 ≤ other l y ∧ other l y < (k13 : Int) ∧ liveAt m3 k15 = true ∧ (p17 ≠ none → 0 < k14)) ∧ ∃ x18 : Int, rd m3 k15 (offOf k16 p17 + (other l y).toNat * 1) = some (vi x18) ∧
        bif decide (x18 < 0) then ∃ p19, rd m3 qv 0 = some (.pointer p19) ∧ isC m3 x = true ∧ ∃ x20 : Int, rd m3 x 1 = some (vi x20) ∧ isC m3 n = true ∧ ∃ x21 : Int, rd m3 n 2 = some (vi x21) ∧ Wc Try.prog fContainerheapPush [.iface tPspfqueue (.pointer p19), .iface tSpffar (.agg ⟨[vi (other l y), vi (IntKind.i64.wrap (x20 + x21))]⟩)] m3 (n + 1) fun v22 m23 k24 => v22 = .tuple ⟨[]⟩ ∧
          Later (∃ y25 : AObj, Tr.get m23 Y = some y25 ∧ isLp y25 = true ∧ memLet (Tr.set m23 Y (lpSet y25 .ready none)) fun m26 => Q (.bool true) m26 k24)
        else ∃ y27 : AObj, Tr.get m3 Y = some y27 ∧ isLp y27 = true ∧ memLet (Tr.set m3 Y (lpSet y27 .ready none)) fun m28 => Q (.bool true) m28 (n + 1)
      else ∃ y29 : AObj, Tr.get m3 Y = some y29 ∧ isLp y29 = true ∧ memLet (Tr.set m3 Y (lpSet y29 .ready none)) fun m30 => Q (.bool true) m30 (n + 1)) →
      ∃ fr, roundA m Y [vi j, .agg ⟨encL l⟩] = some fr ∧ W Try.prog fr m n Q := by
    intro Q hq
    refine ⟨_, roundA_of h.gY dPT_ok, ?_⟩
    refine W_of mixed (cfg := xcfg) (fuel := 400) ?_
    simp only [encL, vi]
    rw [xSpfDistr1]
    refine memLet.mk fun mm e => ⟨ma, by rw [e]; exact hst, _, hYa, lpReady_of, ?_⟩
    rw [lpBusy_of]
    refine memLet.mk fun mm' e' => ?_
    have e' : mm' = m3 := e'.trans hm3
    subst e'
    exact ⟨l.a, l.b, l.c, rds_of gl3, isC_of gx3, _, rd_of gx3 rfl, other_c (l := l) ⟨_, rfl, Later.mk hq⟩⟩
  have len := d3.len
  have hn : ∀ e : Int, other l y = e → e < 0 → DI g f y (j + 1) d T := fun e h1 h2 => DI.look (T' := T) hg d3 hy hy2 hj (by rw [if_neg (by omega)])
  by_cases hneg : other l y ≥ 0
  · have hin : (other l y).toNat < d.length := by
      rw [len]
      rcases other_cases (l := l) (n := (y : Int)) with ⟨_, e⟩ | ⟨_, _, e⟩ | ⟨_, _, e⟩ <;> omega
    have hcast : (((other l y).toNat : Nat) : Int) = other l y := by omega
    by_cases hnew : gd d (other l y).toNat < 0
    · -- pushed
      have hval := d3.val y hy
      have hcnt := cnt_le d
      have hbig := hg.big
      obtain ⟨m4, n4, b', s', c', T', gg', q1, q2, q3, q4, q5, run⟩ := push_c d3'.qu d3'.hp (other l y, gd d y + l.c) (by omega)
      obtain ⟨e1, e2⟩ := d3'.heap q5 q1 q2
      have hl4 := q5.le
      obtain ⟨m5, f1, f2, f3⟩ := fin m4 n4 b' s' c' T' gg' (by omega) e1 (by omega) (DI.look hg d3 hy hy2 hj (by rw [if_pos ⟨rfl, hneg, hnew⟩]; exact q4)) e2
      refine ⟨m5, n4, f3, by omega, fun Q hq => enter Q ?_⟩
      refine condDT hneg ⟨_, _, _, rd_of d3'.go rfl, ?_⟩
      have := d3'.ow.sl.ldi hin (K := fun x18 : Int => bif decide (x18 < 0) then ∃ p19, rd m3 qv 0 = some (.pointer p19) ∧ isC m3 x = true ∧ ∃ x20 : Int, rd m3 x 1 = some (vi x20) ∧ isC m3 n = true ∧ ∃ x21 : Int, rd m3 n 2 = some (vi x21) ∧ Wc Try.prog fContainerheapPush [.iface tPspfqueue (.pointer p19), .iface tSpffar (.agg ⟨[vi (other l y), vi (IntKind.i64.wrap (x20 + x21))]⟩)] m3 (n + 1) fun v22 m23 k24 => v22 = .tuple ⟨[]⟩ ∧
          Later (∃ y25 : AObj, Tr.get m23 Y = some y25 ∧ isLp y25 = true ∧ memLet (Tr.set m23 Y (lpSet y25 .ready none)) fun m26 => Q (.bool true) m26 k24)
        else ∃ y27 : AObj, Tr.get m3 Y = some y27 ∧ isLp y27 = true ∧ memLet (Tr.set m3 Y (lpSet y27 .ready none)) fun m28 => Q (.bool true) m28 (n + 1)) (by
        rw [gd_get hin]
        refine condDT hnew ⟨_, rd_of d3'.gq rfl, isC_of gx3, _, rd_of gx3 rfl, isC_of gl3, _, rd_of gl3 rfl, ?_⟩
        rw [wrap_id (by omega) (by omega)]
        refine run _ ⟨rfl, Later.mk ⟨_, f2, isLp_of, ?_⟩⟩
        rw [lpSet_of, f1]
        exact memLet.mk fun _ e => by subst e; exact hq)
      rw [hcast] at this
      exact this
    · obtain ⟨m5, f1, f2, f3⟩ := fin m3 (n + 1) b s c T gg (by omega) d3' (by omega) (DI.look (T' := T) hg d3 hy hy2 hj (by rw [if_neg (by omega)])) fun _ _ => rfl
      refine ⟨m5, n + 1, f3, by omega, fun Q hq => enter Q ?_⟩
      refine condDT hneg ⟨_, _, _, rd_of d3'.go rfl, ?_⟩
      have := d3'.ow.sl.ldi hin (K := fun x18 : Int => bif decide (x18 < 0) then ∃ p19, rd m3 qv 0 = some (.pointer p19) ∧ isC m3 x = true ∧ ∃ x20 : Int, rd m3 x 1 = some (vi x20) ∧ isC m3 n = true ∧ ∃ x21 : Int, rd m3 n 2 = some (vi x21) ∧ Wc Try.prog fContainerheapPush [.iface tPspfqueue (.pointer p19), .iface tSpffar (.agg ⟨[vi (other l y), vi (IntKind.i64.wrap (x20 + x21))]⟩)] m3 (n + 1) fun v22 m23 k24 => v22 = .tuple ⟨[]⟩ ∧
          Later (∃ y25 : AObj, Tr.get m23 Y = some y25 ∧ isLp y25 = true ∧ memLet (Tr.set m23 Y (lpSet y25 .ready none)) fun m26 => Q (.bool true) m26 k24)
        else ∃ y27 : AObj, Tr.get m3 Y = some y27 ∧ isLp y27 = true ∧ memLet (Tr.set m3 Y (lpSet y27 .ready none)) fun m28 => Q (.bool true) m28 (n + 1)) (by
        rw [gd_get hin]
        refine condDF (by omega) ⟨_, f2, isLp_of, ?_⟩
        rw [lpSet_of, f1]
        exact memLet.mk fun _ e => by subst e; exact hq)
      rw [hcast] at this
      exact this
  · obtain ⟨m5, f1, f2, f3⟩ := fin m3 (n + 1) b s c T gg (by omega) d3' (by omega) (hn _ rfl (by omega)) fun _ _ => rfl
    refine ⟨m5, n + 1, f3, by omega, fun Q hq => enter Q ?_⟩
    refine condDF hneg ⟨_, f2, isLp_of, ?_⟩
    rw [lpSet_of, f1]
    exact memLet.mk fun _ e => by subst e; exact hq
end
end Go.Proofs.Ytiomjekkmjinbaa

set_option maxRecDepth 100000
namespace Go.Proofs.Ytiomjekkmjinbaa
open Go Go.Ab Spf
section
variable {m0 m m' : Mem} {n0 n n' : Nat} {fl : List Nat} {o qv q b b' : Nat} {oa : Option Addr} {d : List Int} {s s' : Option Nat} {c c' : Nat} {T T' : List (Int × Int)} {gg gg' : List Value}
theorem DS.put (h : DS m0 n0 m n fl o qv q b oa d s c T gg) {i : Nat} (hi : i < d.length) (y : Int) :
    ∃ bo oo so m', oa = some ⟨bo, oo, so⟩ ∧ liveAt m bo = true ∧ (so ≠ none → 0 < d.length) ∧ storeCs m bo (offOf oo so + i * 1) [vi y] = some m' ∧ DS m0 n0 m' n fl o qv q b oa (d.set i y) s c T gg ∧ (∀ j, j ≠ bo → m'.get j = m.get j) ∧ ∃ full, m.get bo = some (.cells none tInt 1 full) := by
  obtain ⟨bo, oo, so, m1, e, l1, l2, l3, l4, l5, l6, l7⟩ := h.ow.store (j := i) (vs := [vi y]) (by simp; omega) (by simp [-Bool.exists_bool, cellOk]) (by simp [-Bool.exists_bool])
  subst e
  have hb := h.oab rfl
  have hfull : ∃ full, m.get bo = some (.cells none tInt 1 full) := by
    obtain ⟨_, _, h3⟩ := h.ow
    rcases h3 with ⟨h3, _⟩ | ⟨b1, o1, s1, full, g1, g2, g3, g4, _⟩
    · cases h3
    · cases g1; exact ⟨full, g4⟩
  have hfull' := hfull
  obtain ⟨full, hf⟩ := hfull
  simp only [List.length_singleton] at l6
  rw [map_take_drop_set vi d i y hi] at l6
  have e1 : (d.set i y).length = d.length := by simp [-Bool.exists_bool]
  refine ⟨bo, oo, so, m1, rfl, l3, l4, by simpa [-Bool.exists_bool] using l5, ⟨⟨h.le.le, fun j hj => (l7 j (by omega)).trans (h.le.same j hj)⟩, fun hfs j hj => by rw [l7 j (by omega)]; exact h.fs hfs j hj, ?_, ?_, by rw [e1]; exact l6,
    h.qu.same (Nat.le_refl _) (l7 q (fun e => hb.2.2.1 e.symm)) (l7 b (fun e => hb.2.2.2 e.symm)), h.hp, h.fx, h.lo, h.lqv, h.lq, h.lb⟩, l7, hfull'⟩
  · rw [e1, l7 o (ne_get h.go hf (by decide))]; exact h.go
  · rw [l7 qv (ne_get h.gq hf (by decide))]; exact h.gq

theorem meas {N c c1 t t2 t7 k xl : Nat} (h : c1 ≤ N) (h1 : c1 = c + 1) (h2 : (N - c) * 200 + t ≤ k + 1) (h3 : t = t2 + 1) (h4 : t7 ≤ t2 + xl) (h5 : xl ≤ 128) : (N - c1) * 200 + t7 ≤ k := by omega
theorem dist_loop {X : List (Lk × Bool)} {N : Nat} (hg : (G.mk N X).Ok) {f : Nat} {la ua : Option Addr} {lc uc : Nat} (hL : Sl m0 n0 la lc ((X.map (·.1)).flatMap encL)) (hU : Sl m0 n0 ua uc ((X.map (·.2)).map Value.bool)) :
    ∀ (k : Nat) (m : Mem) (n : Nat) (bs : List Nat) (b : Nat) (s : Option Nat) (c : Nat) (T : List (Int × Int)) (gg : List Value) (d : List Int), (N - cnt d) * 200 + T.length ≤ k → k ≤ 20000 → DS m0 n0 m n bs o qv q b oa d s c T gg → DI ⟨N, X⟩ f 0 X.length d T → bs.Nodup → (∀ i ∈ bs, m.get i = some (.deferred (some []))) →
    ∃ m' n' d', IsDist ⟨N, X⟩ f d' ∧ Ow m' n0 n' tInt 1 oa d'.length d'.length (d'.map vi) ∧ Le m0 n0 m' n' ∧ (Fs m0 n0 → Fs m' n') ∧ ∀ Q : Value → Mem → Nat → Prop, Q (.slice oa d'.length d'.length) m' n' →
      W Try.prog { fn := fSpfDist, nt := 80, slots := [(1, .slice la X.length lc), (2, .slice ua X.length uc), (9, pp o), (10, pp qv)], todo := pt Try.prog fSpfDist [1, 1, 1, 1, 0, 0, 0], defers := bs.map collD } m n Q := by
  intro k
  induction k with
  | zero =>
    intro m n bs b s c T gg d hk _ h hd hnd hbs
    have hT : T = [] := List.length_eq_zero_iff.1 (by omega)
    subst hT
    have hkc : KeepC m (clrAll bs m) := fun i hi => clrAll_get bs m i fun hm => by rw [notD (hbs i hm)] at hi; cases hi
    refine ⟨clrAll bs m, n, d, DI.done hg hd (Nat.le_refl _), h.ow.keep (Nat.le_refl _) hkc, ⟨h.le.le, fun i hi => ?_⟩, fun hf i hi => ?_, fun Q hq => ?_⟩
    · rw [clrAll_get bs m i fun hm => by have := (h.fx i hm).1; omega]; exact h.le.same i hi
    · rw [clrAll_get bs m i fun hm => by have := (h.fx i hm).2.1; omega]; exact h.fs hf i hi
    · refine W_of mixed (cfg := xcfg) (fuel := 400) ?_
      rw [xSpfDistk0]
      refine ⟨_, rd_of h.gq rfl, _, _, _, rd_of h.qu.get rfl, qlen_c ⟨_, rfl, Later.mk (condDF (by simp [-Bool.exists_bool]) ⟨_, _, _, rd_of h.go rfl, bs, ⟨rfl, hnd, hbs⟩, memLet.mk fun mm e => by subst e; exact hq⟩)⟩⟩
  | succ k ih =>
    intro m n bs b s c T gg d hk hk2 h hd hnd hbs
    have hmany := hg.many
    have hbig := hg.big
    simp only at hmany hbig
    by_cases hT : T.length = 0
    · have hT : T = [] := List.length_eq_zero_iff.1 hT
      subst hT
      have hkc : KeepC m (clrAll bs m) := fun i hi => clrAll_get bs m i fun hm => by rw [notD (hbs i hm)] at hi; cases hi
      refine ⟨clrAll bs m, n, d, DI.done hg hd (Nat.le_refl _), h.ow.keep (Nat.le_refl _) hkc, ⟨h.le.le, fun i hi => ?_⟩, fun hf i hi => ?_, fun Q hq => ?_⟩
      · rw [clrAll_get bs m i fun hm => by have := (h.fx i hm).1; omega]; exact h.le.same i hi
      · rw [clrAll_get bs m i fun hm => by have := (h.fx i hm).2.1; omega]; exact h.fs hf i hi
      · refine W_of mixed (cfg := xcfg) (fuel := 400) ?_
        rw [xSpfDistk0]
        refine ⟨_, rd_of h.gq rfl, _, _, _, rd_of h.qu.get rfl, qlen_c ⟨_, rfl, Later.mk (condDF (by simp [-Bool.exists_bool]) ⟨_, _, _, rd_of h.go rfl, bs, ⟨rfl, hnd, hbs⟩, memLet.mk fun mm e => by subst e; exact hq⟩)⟩⟩
    have hTpos : (T.length : Int) > 0 := by omega
    obtain ⟨m2, n2, s2, T2, gg2, e, q1, q2, q3, q4, q5, q6, run2⟩ := pop_c h.qu h.hp (by omega)
    obtain ⟨d2, k2⟩ := h.heap q6 q1 q2
    obtain ⟨y, hy1, hyN, hy0, _, _⟩ := hd.q e ((q4 e).2 (.inl rfl))
    have len := hd.len
    simp only at hyN len
    have hyl : y < d.length := by omega
    have hl2 := q6.le
    -- the popped one's block
    generalize hm3 : (m2.set n2 (.cells none tSpffar 2 [.int .i64 0, .int .i64 0])).set n2 (.cells none tSpffar 2 (encF e)) = m3
    have k3 : ∀ i, i ≠ n2 → m3.get i = m2.get i := fun i hi => by rw [← hm3, Tr.get_set, if_neg (fun e => hi e.symm), Tr.get_set, if_neg (fun e => hi e.symm)]
    have g3 : m3.get n2 = some (.cells none tSpffar 2 (encF e)) := by rw [← hm3]; simp [-Bool.exists_bool, Tr.get_set]
    have hst3 : storeCs (m2.set n2 (.cells none tSpffar 2 [.int .i64 0, .int .i64 0])) n2 0 (encF e) = some m3 := by
      have := store_of (m := m2.set n2 (.cells none tSpffar 2 [.int .i64 0, .int .i64 0])) (b := n2) (off := 0) (vs := encF e) (T := tSpffar) (sz := 2) (cs := [.int .i64 0, .int .i64 0]) (by simp [-Bool.exists_bool, Tr.get_set]) (by simp [-Bool.exists_bool]) (by simp [-Bool.exists_bool, encF, cellOk])
      rw [this, ← hm3]
      simp [-Bool.exists_bool, encF]
    have d3 : DS m0 n0 m3 (n2 + 1) bs o qv q b oa d s2 c T2 gg2 := d2.ext ⟨by omega, fun i hi => k3 i (by omega)⟩ fun hf i hi => by rw [k3 i (by omega)]; exact hf i (by omega)
    have b3 : ∀ i ∈ bs, m3.get i = some (.deferred (some [])) := fun i hi => by rw [k3 i (by have := (d2.fx i hi).2.1; omega), k2 i hi]; exact hbs i hi
    have hcast : ((e.1).toNat : Nat) = y := by omega
    by_cases hset : 0 ≤ gd d y
    · -- there already
      obtain ⟨m', n', d', r1, r2, r3, r4, run⟩ := ih m3 (n2 + 1) bs b s2 c T2 gg2 d (by omega) (by omega) d3 (hd.skip q4 hy1 hset) hnd b3
      refine ⟨m', n', d', r1, r2, r3, r4, fun Q hq => ?_⟩
      refine W_of mixed (cfg := xcfg) (fuel := 400) ?_
      rw [xSpfDistk0]
      refine ⟨_, rd_of h.gq rfl, _, _, _, rd_of h.qu.get rfl, qlen_c ⟨_, rfl, Later.mk (condDT hTpos ⟨_, rd_of h.gq rfl, run2 _ ⟨e.1, e.2, rfl, Later.mk ⟨rfl, e.1, e.2, rfl, memLet.mk fun mm ee => ⟨m3, by rw [ee]; exact hst3, _, _, _, rd_of d3.go rfl, isC_of g3, _, rd_of g3 rfl, ?_⟩⟩⟩⟩)⟩⟩
      have := d3.ow.sl.ldi hyl (K := fun x27 : Int => x27 = gd d y) (gd_get hyl)
      rw [show ((y : Nat) : Int) = e.1 from hy1.symm] at this
      have nxt := run Q hq
      revert this
      generalize (oa) = oz at *
      intro this
      rcases oz with _ | ⟨b1, o1, s1⟩
      · exact this.elim
      · obtain ⟨t1, x27, t2, t3⟩ := this
        exact ⟨t1, x27, t2, condDT (by rw [t3]; exact hset) nxt⟩
    · -- new
      have hset : gd d y < 0 := by omega
      obtain ⟨bo, oo, so, m4, eo, l1, l2, l3, d4, l5, full, l6⟩ := d3.put hyl e.2
      have heT : e ∈ T := (q4 e).2 (.inl rfl)
      obtain ⟨i1, i2⟩ := DI.take hg hd (Nat.le_refl _) q4 q5 hy1 hset
      have gdy : gd (d.set y e.2) y = e.2 := by rw [gd_set hyl, if_pos rfl]
      have hmax : ∀ v, gd (d.set y e.2) v ≤ gd (d.set y e.2) y := fun v => by
        rw [gdy, gd_set hyl]
        split
        · exact Int.le_refl _
        · exact hd.hi e heT v
      have g4 : m4.get n2 = some (.cells none tSpffar 2 (encF e)) := by rw [l5 n2 (ne_get g3 l6 (by decide))]; exact g3
      have b4 : ∀ i ∈ bs, m4.get i = some (.deferred (some [])) := fun i hi => by
        rw [l5 i (by rintro rfl; rw [b3 i hi] at l6; cases l6)]; exact b3 i hi
      -- the filter
      generalize hm5 : (m4.set (n2 + 1) (.cells none tLapiLink 1 [.slice la X.length lc])).set (n2 + 1 + 1) (.cells none tLbool 1 [.slice ua X.length uc]) = m5
      generalize hSL : dSL la ua X.length lc X.length uc o qv n2 (n2 + 1) (n2 + 1 + 1) = SL
      generalize hm6 : (m5.set (n2 + 1 + 1 + 1) (.deferred (some []))).set (n2 + 1 + 1 + 1 + 1) (loopO fSpfDist 80 SL .ready none dPT (n2 + 1 + 1 + 1)) = m6
      have k6 : ∀ i, i < n2 + 1 → m6.get i = m4.get i := fun i hi => by
        rw [← hm6, Tr.get_set, if_neg (by omega), Tr.get_set, if_neg (by omega), ← hm5, Tr.get_set, if_neg (by omega), Tr.get_set, if_neg (by omega)]
      have gt1 : m6.get (n2 + 1) = some (.cells none tLapiLink 1 [.slice la X.length lc]) := by
        rw [← hm6, Tr.get_set, if_neg (by omega), Tr.get_set, if_neg (by omega), ← hm5, Tr.get_set, if_neg (by omega)]; simp [-Bool.exists_bool, Tr.get_set]
      have gt2 : m6.get (n2 + 1 + 1) = some (.cells none tLbool 1 [.slice ua X.length uc]) := by
        rw [← hm6, Tr.get_set, if_neg (by omega), Tr.get_set, if_neg (by omega), ← hm5]; simp [-Bool.exists_bool, Tr.get_set]
      have gdn : m6.get (n2 + 1 + 1 + 1) = some (.deferred (some [])) := by
        rw [← hm6, Tr.get_set, if_neg (by omega)]; simp [-Bool.exists_bool, Tr.get_set]
      have gY6 : m6.get (n2 + 1 + 1 + 1 + 1) = some (loopO fSpfDist 80 SL .ready none dPT (n2 + 1 + 1 + 1)) := by rw [← hm6]; simp [-Bool.exists_bool, Tr.get_set]
      have d6 : DS m0 n0 m6 (n2 + 1 + 1 + 1 + 2) bs o qv q b oa (d.set y e.2) s2 c T2 gg2 := d4.ext ⟨by omega, k6⟩ fun hf i hi => by
        rw [← hm6, Tr.get_set, if_neg (by omega), Tr.get_set, if_neg (by omega), ← hm5, Tr.get_set, if_neg (by omega), Tr.get_set, if_neg (by omega)]; exact hf i (by omega)
      have hq2 := d2.qu.lq
      have hb2 := d2.qu.lb
      have h02 := d2.le.le
      have d6' : DS m0 n0 m6 (n2 + 1 + 1 + 1 + 2) (n2 :: (n2 + 1 + 1) :: (n2 + 1 + 1 + 1) :: (n2 + 1 + 1 + 1 + 1) :: bs) o qv q b oa (d.set y e.2) s2 c T2 gg2 := d6.fls fun i hi => by
        simp only [List.mem_cons] at hi
        rcases hi with e | e | e | e | e
        · exact .inr (by omega)
        · exact .inr (by omega)
        · exact .inr (by omega)
        · exact .inr (by omega)
        · exact .inl e
      have gx6 : m6.get n2 = some (.cells none tSpffar 2 (encF ((y : Int), gd (d.set y e.2) y))) := by
        rw [k6 n2 (by omega), gdy, ← hy1]; exact g4
      have I0 : DI1 ⟨N, X⟩ f m0 n0 m6 bs n2 (n2 + 1 + 1) (n2 + 1 + 1 + 1) (n2 + 1 + 1 + 1 + 1) o qv q SL oa (d.set y e.2) y T2.length 0 m6 (n2 + 1 + 1 + 1 + 2) :=
        ⟨⟨b, s2, c, T2, gg2, d6', by omega, i1⟩, fun _ _ => rfl, gY6⟩
      have hbl : ∀ i ∈ bs, i < n2 := fun i hi => (d2.fx i hi).2.1
      obtain ⟨m7, n7, I7, hn7, run7⟩ := filter_loop (X := X) (Y := n2 + 1 + 1 + 1 + 1) (t2 := n2 + 1 + 1) (la := la) (ua := ua) (lc := lc) (uc := uc) (by omega)
        (fun j m n => DI1 ⟨N, X⟩ f m0 n0 m6 bs n2 (n2 + 1 + 1) (n2 + 1 + 1 + 1) (n2 + 1 + 1 + 1 + 1) o qv q SL oa (d.set y e.2) y T2.length j m n)
        (fun j m n hI => by obtain ⟨_, _, _, _, _, e1, _⟩ := hI.ds; exact hL.le e1.le)
        (fun j m n hI => by
          obtain ⟨_, _, _, _, _, e1, _⟩ := hI.ds
          exact ⟨by rw [hI.old _ (by simp [-Bool.exists_bool])]; exact gt2, (e1.fx _ (by simp [-Bool.exists_bool])).2.1, hU.le e1.le⟩)
        (fun j m n m' n' hI l fs => hI.ext l fs)
        (fun j l m n hj hI => by
          obtain ⟨b', s', c', T', gg', e1, e2, e3⟩ := hI.ds
          exact ⟨⟨b', s', c', T', gg', e1, by omega, DI.look (T' := T') hg e3 (by rw [gdy]; omega) hmax hj (by rw [if_neg (by simp [-Bool.exists_bool])])⟩, hI.old, hI.gY⟩)
        (fun j l m n hj hI => by
          subst hSL
          exact dist_round hg (by omega) gx6 (by rw [gdy]; omega) hmax (by omega) (by omega) (by omega) (fun hm => by have := hbl _ hm; omega) hj hI)
        X.length 0 m6 (n2 + 1 + 1 + 1 + 2) (by omega) I0
      obtain ⟨b7, s7, c7, T7, gg7, d7, t7, j7⟩ := I7.ds
      generalize hm8 : m7.set (n2 + 1 + 1 + 1 + 1) (loopO fSpfDist 80 SL .exhausted none dPT (n2 + 1 + 1 + 1)) = m8
      have k8 : ∀ i, i ≠ n2 + 1 + 1 + 1 + 1 → m8.get i = m7.get i := fun i hi => by rw [← hm8, Tr.get_set, if_neg (fun e => hi e.symm)]
      have d8 : DS m0 n0 m8 n7 ((n2 + 1 + 1 + 1) :: bs) o qv q b7 oa (d.set y e.2) s7 c7 T7 gg7 := by
        refine (d7.keep ?_ ?_ ?_).fls fun i hi => .inl ?_
        · rw [← hm8]; exact KeepC.refl.set (notC I7.gY)
        · intro i hi; exact k8 i (by omega)
        · intro hf; rw [← hm8]; exact hf.in_ (d7.fx _ (by simp [-Bool.exists_bool])).2.1
        · simp only [List.mem_cons] at hi ⊢; rcases hi with h | h <;> simp [-Bool.exists_bool, h]
      have hcl := cnt_le d
      have hcl2 := cnt_le (d.set y e.2)
      rw [List.length_set] at hcl2
      obtain ⟨m', n', d', r1, r2, r3, r4, run⟩ := ih m8 n7 ((n2 + 1 + 1 + 1) :: bs) b7 s7 c7 T7 gg7 (d.set y e.2) (meas (by omega) i2 hk q3 t7 hmany) (by omega) d8 (j7.any (Nat.le_refl _) hg 0 X.length) (List.nodup_cons.2 ⟨fun hm => by have := hbl _ hm; omega, hnd⟩) fun i hi => by
          rcases List.mem_cons.1 hi with rfl | hi
          · rw [k8 _ (by omega), I7.old _ (by simp [-Bool.exists_bool])]; exact gdn
          · have := hbl i hi
            rw [k8 i (by omega), I7.old i (by simp [-Bool.exists_bool, hi]), k6 i (by omega)]; exact b4 i hi
      refine ⟨m', n', d', r1, r2, r3, r4, fun Q hq => ?_⟩
      subst eo
      refine W_of mixed (cfg := xcfg) (fuel := 400) ?_
      rw [xSpfDistk0]
      refine ⟨_, rd_of h.gq rfl, _, _, _, rd_of h.qu.get rfl, qlen_c ⟨_, rfl, Later.mk (condDT hTpos ⟨_, rd_of h.gq rfl, run2 _ ⟨e.1, e.2, rfl, Later.mk ⟨rfl, e.1, e.2, rfl, memLet.mk fun mm ee => ⟨m3, by rw [ee]; exact hst3, _, _, _, rd_of d3.go rfl, isC_of g3, _, rd_of g3 rfl, ?_⟩⟩⟩⟩)⟩⟩
      have := d3.ow.sl.ldi hyl (K := fun x27 : Int => x27 = gd d y) (gd_get hyl)
      rw [show ((y : Nat) : Int) = e.1 from hy1.symm] at this
      obtain ⟨t1, x27, t2, t3⟩ := this
      refine ⟨t1, x27, t2, condDF (by rw [t3]; omega) ⟨_, _, _, rd_of d3.go rfl, isC_of g3, _, rd_of g3 rfl, isC_of g3, _, rd_of g3 rfl, t1, m4, ?_, ?_⟩⟩
      · rw [show (e.1).toNat = y from hcast]; exact l3
      refine Wc_of mixed (cfg := xcfg) (fuel := 400) ?_
      rw [xSpffilterapiLink]
      refine memLet.mk fun ma ea => memLet.mk fun mb eb => ?_
      have eb : mb = m5 := by rw [eb, ea]; exact hm5
      subst eb
      refine ⟨_, _, _, rfl, Later.mk (memLet.mk fun mc ec => ?_)⟩
      have ec : mc = m6 := by rw [ec, ← hm6, ← hSL]
      subst ec
      refine Wc_of mixed (cfg := xcfg) (fuel := 400) (?_ : Xc Try.prog xcfg 400 fSpffilterapiLink1 [.func (.yield (n2 + 1 + 1 + 1 + 1)) ⟨[]⟩ ⟨[]⟩, pp (n2 + 1), pp (n2 + 1 + 1)] _ _ _)
      rw [xSpffilterapiLink1]
      refine ⟨_, _, _, rd_of gt1 rfl, run7 _ ⟨.ready, none, by rw [I7.gY, ← hSL], rfl, Later.mk (memLet.mk fun md ed => ?_)⟩⟩
      have ed : md = m8 := by rw [ed, ← hm8, ← hSL]
      subst ed
      exact run Q hq
end

theorem valid_x {m : Mem} {n : Nat} {N : Int} {L : List Lk} {E : List Int} {la ua ea : Option Addr} {ll lc ul uc el ec : Nat} (hll : L.length = ll) (hee : E.length = el) (hL : Sl m n la lc (L.flatMap encL)) (hE : Sl m n ea ec (E.map vi)) (hel : el ≤ 1000) {Q : Value → Mem → Nat → Prop} (hq : Q (.bool (validP N L ul E)) m n) :
    Wc Try.prog fSpfvalid [vi N, .slice la ll lc, .slice ua ul uc, .slice ea el ec] m n Q := by
  subst hll; subst hee
  exact valid_c hL hE hel hq
/-- Dist, of a valid input. -/
theorem dist_ok {m : Mem} {n : Nat} {X : List (Lk × Bool)} {N f : Nat} (hg : (G.mk N X).Ok) (hf : f < N) {la ua : Option Addr} {lc uc : Nat} (hL : Sl m n la lc ((X.map (·.1)).flatMap encL)) (hU : Sl m n ua uc ((X.map (·.2)).map Value.bool)) :
    ∃ m' n' a d, IsDist ⟨N, X⟩ f d ∧ Ow m' n n' tInt 1 a d.length d.length (d.map vi) ∧ Le m n m' n' ∧ (Fs m n → Fs m' n') ∧ Exact Try.prog fSpfDist [vi N, .slice la X.length lc, .slice ua X.length uc, vi f] m n (.slice a d.length d.length) m' n' := by
  have hmany := hg.many
  have hbig := hg.big
  have hpos := hg.pos
  simp only at hmany hbig hpos
  generalize hm1 : m.set n (.cells none tInt 1 [vi f]) = m1
  have hle1 : Le m n m1 (n + 1) := by rw [← hm1]; exact Le.new
  have hf1 : Fs m n → Fs m1 (n + 1) := fun h => by rw [← hm1]; exact h.set
  have hE : Sl m1 (n + 1) (some ⟨n, 0, none⟩) 1 ([(f : Int)].map vi) := by
    have : Ow m1 n (n + 1) tInt 1 (some ⟨n, 0, none⟩) 1 1 [vi f] := by rw [← hm1]; exact Ow.new (Nat.le_refl _) rfl
    exact this.sl
  have hok : validP N (X.map (·.1)) X.length [(f : Int)] = true := by
    have h1 : (X.map (·.1)).all (okLk N) = true := by
      rw [List.all_map, List.all_eq_true]
      exact fun x hx => hg.lk x hx
    simp [-Bool.exists_bool, validP, h1, inN]; omega
  generalize hm2 : m1.set (n + 1) (.cells none tInt 1 [vi (-1)]) = m2
  have hle2 : Le m1 (n + 1) m2 (n + 1 + 1) := by rw [← hm2]; exact Le.new
  obtain ⟨m3, n3, a, ow3, le3, fs3, run3⟩ := repeat_c (m := m2) (n := n + 1 + 1) (k := n + 1) hbig hpos (by rw [← hm2]; simp [-Bool.exists_bool, Tr.get_set]) (by omega)
  have l3 := le3.le
  generalize hm4 : (m3.set n3 (.cells none tLint 1 [.slice none 0 0])).set n3 (.cells none tLint 1 [.slice a N N]) = m4
  have st4 : storeCs (m3.set n3 (.cells none tLint 1 [.slice none 0 0])) n3 0 [.slice a N N] = some m4 := by
    have := store_of (m := m3.set n3 (.cells none tLint 1 [.slice none 0 0])) (b := n3) (off := 0) (vs := [.slice a N N]) (T := tLint) (sz := 1) (cs := [.slice none 0 0]) (by simp [-Bool.exists_bool, Tr.get_set]) (by simp [-Bool.exists_bool]) (by simp [-Bool.exists_bool, cellOk])
    rw [this, ← hm4]; simp [-Bool.exists_bool]
  generalize hm7 : ((m4.set (n3 + 1) (.cells none tSpffar 2 (encF ((f : Int), 0)))).set (n3 + 1 + 1) (.cells none tSpfqueue 1 [.slice (some ⟨n3 + 1, 0, none⟩) 1 1])).set (n3 + 1 + 1 + 1) (.cells none tPspfqueue 1 [.pointer none]) = m7
  generalize hm8 : m7.set (n3 + 1 + 1 + 1) (.cells none tPspfqueue 1 [pp (n3 + 1 + 1)]) = m8
  have g7 : m7.get (n3 + 1 + 1 + 1) = some (.cells none tPspfqueue 1 [.pointer none]) := by rw [← hm7]; simp [-Bool.exists_bool, Tr.get_set]
  have k8 : ∀ i, i < n3 → m8.get i = m3.get i := fun i hi => by
    rw [← hm8, Tr.get_set, if_neg (by omega), ← hm7, Tr.get_set, if_neg (by omega), Tr.get_set, if_neg (by omega), Tr.get_set, if_neg (by omega), ← hm4, Tr.get_set, if_neg (by omega), Tr.get_set, if_neg (by omega)]
  have g8o : m8.get n3 = some (.cells none tLint 1 [.slice a N N]) := by
    rw [← hm8, Tr.get_set, if_neg (by omega), ← hm7, Tr.get_set, if_neg (by omega), Tr.get_set, if_neg (by omega), Tr.get_set, if_neg (by omega), ← hm4]; simp [-Bool.exists_bool, Tr.get_set]
  have g8b : m8.get (n3 + 1) = some (.cells none tSpffar 2 (encF ((f : Int), 0))) := by
    rw [← hm8, Tr.get_set, if_neg (by omega), ← hm7, Tr.get_set, if_neg (by omega), Tr.get_set, if_neg (by omega)]; simp [-Bool.exists_bool, Tr.get_set]
  have g8q : m8.get (n3 + 1 + 1) = some (.cells none tSpfqueue 1 [.slice (some ⟨n3 + 1, 0, none⟩) 1 1]) := by
    rw [← hm8, Tr.get_set, if_neg (by omega), ← hm7, Tr.get_set, if_neg (by omega)]; simp [-Bool.exists_bool, Tr.get_set]
  have g8v : m8.get (n3 + 1 + 1 + 1) = some (.cells none tPspfqueue 1 [pp (n3 + 1 + 1)]) := by rw [← hm8]; simp [-Bool.exists_bool, Tr.get_set]
  have hle : Le m n m8 (n3 + 1 + 1 + 1 + 1) := ⟨by omega, fun i hi => by rw [k8 i (by omega)]; exact ((hle1.trans hle2).trans le3).same i hi⟩
  have hrl : (List.replicate N (-1 : Int)).length = N := by simp [-Bool.exists_bool]
  have ds : DS m n m8 (n3 + 1 + 1 + 1 + 1) [] n3 (n3 + 1 + 1 + 1) (n3 + 1 + 1) (n3 + 1) a (List.replicate N (-1)) none 1 [((f : Int), 0)] [] := by
    refine ⟨hle, fun h i hi => ?_, by rw [hrl]; exact g8o, g8v, ?_, ⟨.inl rfl, g8q, by simpa [-Bool.exists_bool] using g8b, rfl, by omega, by omega, by omega, by omega, by simp⟩, fun i h0 hi => by simp [-Bool.exists_bool] at hi; omega, fun i hi => by simp [-Bool.exists_bool] at hi, by omega, by omega, by omega, by omega⟩
    · rw [← hm8, Tr.get_set, if_neg (by omega), ← hm7, Tr.get_set, if_neg (by omega), Tr.get_set, if_neg (by omega), Tr.get_set, if_neg (by omega), ← hm4, Tr.get_set, if_neg (by omega), Tr.get_set, if_neg (by omega)]
      exact fs3 (by rw [← hm2]; exact (hf1 h).set) i (by omega)
    · rw [hrl]
      exact (ow3.low (by omega)).same (by omega) fun b o s e => k8 b (ow3.bnd e).2
  have hlm : (X.map (·.1)).length = X.length := by simp [-Bool.exists_bool]
  obtain ⟨m', n', d', r1, r2, r3, r4, run⟩ := dist_loop (o := n3) (qv := n3 + 1 + 1 + 1) (q := n3 + 1 + 1) (oa := a) hg hL hU 10000 m8 _ [] (n3 + 1) none 1 [((f : Int), 0)] [] (List.replicate N (-1)) (by simp; omega) (by omega) ds (DI.start (g := ⟨N, X⟩) hf 0 X.length) List.nodup_nil (fun i hi => by simp [-Bool.exists_bool] at hi)
  refine ⟨m', n', a, d', r1, r2, r3, r4, fun Q hq => ?_⟩
  refine Wc_of mixed (cfg := xcfg) (fuel := 400) ?_
  rw [xSpfDist]
  refine memLet.mk fun ma ea => ?_
  have ea : ma = m1 := ea.trans hm1
  subst ea
  have hL1 := hL.le hle1
  refine valid_x (L := X.map (·.1)) (E := [(f : Int)]) hlm rfl hL1 hE (by simp [-Bool.exists_bool]) ⟨_, rfl, Later.mk ?_⟩
  rw [hok]
  refine condF rfl (memLet.mk fun mb eb => ?_)
  have eb : mb = m2 := eb.trans hm2
  subst eb
  refine run3 _ ⟨_, _, _, rfl, Later.mk (memLet.mk fun mc ec => ⟨m4, by rw [ec]; exact st4, memLet.mk fun md ed => memLet.mk fun me ee => memLet.mk fun mf ef => ?_⟩)⟩
  have ef : mf = m7 := by rw [ef, ee, ed]; exact hm7
  subst ef
  exact ⟨m8, by rw [← hm8]; exact store_of g7 (by simp [-Bool.exists_bool]) (by simp [-Bool.exists_bool, cellOk]), run Q hq⟩
end Go.Proofs.Ytiomjekkmjinbaa

set_option maxRecDepth 100000
/- First links, plain. -/
namespace Spf
/-- Whether a link is one with which a shortest path begins; d: the distances to the end. -/
def onP (d : List Int) (f : Nat) (l : Lk) (u : Bool) : Bool := u && (decide (0 ≤ other l f) && (decide (0 ≤ gd d (other l f).toNat) && decide (gd d (other l f).toNat + l.c = gd d f)))
def nextGo (d : List Int) (f : Nat) : Nat → List (Lk × Bool) → List Int
  | _, [] => []
  | i, (l, u) :: X => if onP d f l u then (i : Int) :: nextGo d f (i + 1) X else nextGo d f (i + 1) X
def nextL (g : G) (d : List Int) (f : Nat) : List Int := nextGo d f 0 g.X
theorem nextGo_drop {d : List Int} {f j : Nat} {X : List (Lk × Bool)} {l : Lk} {u : Bool} (h : X[j]? = some (l, u)) : nextGo d f j (X.drop j) = if onP d f l u then (j : Int) :: nextGo d f (j + 1) (X.drop (j + 1)) else nextGo d f (j + 1) (X.drop (j + 1)) := by
  obtain ⟨hj, he⟩ := List.getElem?_eq_some_iff.1 h
  rw [List.drop_eq_getElem_cons hj, he]
  rfl
theorem mem_nextGo {d : List Int} {f : Nat} {x : Int} : ∀ {X : List (Lk × Bool)} {i : Nat}, x ∈ nextGo d f i X ↔ ∃ k l u, X[k]? = some (l, u) ∧ x = ((i + k : Nat) : Int) ∧ onP d f l u = true
  | [], i => by simp [-Bool.exists_bool, nextGo]
  | (l, u) :: X, i => by
    have ih := mem_nextGo (d := d) (f := f) (x := x) (X := X) (i := i + 1)
    have key : x ∈ nextGo d f i ((l, u) :: X) ↔ (onP d f l u = true ∧ x = (i : Int)) ∨ x ∈ nextGo d f (i + 1) X := by
      simp only [nextGo]
      split
      · rename_i h; simp [-Bool.exists_bool, h]
      · rename_i h; simp [-Bool.exists_bool, h]
    rw [key, ih]
    constructor
    · rintro (⟨h1, h2⟩ | ⟨k, l', u', h1, h2, h3⟩)
      · exact ⟨0, l, u, rfl, by simpa [-Bool.exists_bool] using h2, h1⟩
      · exact ⟨k + 1, l', u', by simpa [-Bool.exists_bool] using h1, by rw [h2]; congr 1; omega, h3⟩
    · rintro ⟨k, l', u', h1, h2, h3⟩
      cases k with
      | zero =>
        simp only [List.getElem?_cons_zero, Option.some.injEq, Prod.mk.injEq] at h1
        obtain ⟨rfl, rfl⟩ := h1
        exact .inl ⟨h3, by simpa [-Bool.exists_bool] using h2⟩
      | succ k => exact .inr ⟨k, l', u', by simpa [-Bool.exists_bool] using h1, by rw [h2]; congr 1; omega, h3⟩
theorem nextGo_len {d : List Int} {f : Nat} : ∀ (X : List (Lk × Bool)) (i : Nat), (nextGo d f i X).length ≤ X.length
  | [], i => by simp [-Bool.exists_bool, nextGo]
  | (l, u) :: X, i => by
    have := nextGo_len (d := d) (f := f) X (i + 1)
    simp only [nextGo]
    split <;> simp [-Bool.exists_bool] <;> omega
/-- A link of Next leads to a nearer node. -/
theorem next_st {g : G} {d : List Int} {f : Nat} {x : Int} : x ∈ nextL g d f ↔ ∃ (i v : Nat) (c : Int), x = (i : Int) ∧ St g i f v c ∧ 0 ≤ gd d v ∧ gd d v + c = gd d f := by
  unfold nextL
  rw [mem_nextGo]
  constructor
  · rintro ⟨k, l, u, h1, h2, h3⟩
    simp only [onP, Bool.and_eq_true, decide_eq_true_eq] at h3
    obtain ⟨rfl, h4, h5, h6⟩ := h3
    exact ⟨k, (other l f).toNat, l.c, by simpa [-Bool.exists_bool] using h2, ⟨l, h1, by omega, rfl⟩, h5, h6⟩
  · rintro ⟨i, v, c, rfl, ⟨l, h1, h2, h3⟩, h4, h5⟩
    refine ⟨i, l, true, h1, by simp, ?_⟩
    subst h3
    simp only [onP, Bool.and_eq_true, decide_eq_true_eq, h2]
    exact ⟨trivial, by omega, by simpa [-Bool.exists_bool] using h4, by simpa [-Bool.exists_bool] using h5⟩
end Spf

set_option maxRecDepth 100000
namespace Go.Proofs.Ytiomjekkmjinbaa
open Go Go.Ab Spf
theorem intOk : elemOk Try.prog tLint tInt 1 = true := by kernel_rfl
@[reducible] noncomputable def nSL (fb db ob t1 t2 : Nat) : Slots := [(8, pp fb), (11, pp db), (12, pp ob), (31, .func (.func fSpffilterapiLink1) ⟨[]⟩ ⟨[pp t1, pp t2]⟩)]
@[reducible] noncomputable def nPT : List Item := pt Try.prog fSpfNext [1, 1, 1, 1, 0, 1, 0]
theorem nPT_ok : rfOk 65 nPT 2 = true := by kernel_rfl

structure NI (X : List (Lk × Bool)) (d : List Int) (f : Nat) (ms : Mem) (ns ob Y dn : Nat) (SL : Slots) (j : Nat) (m : Mem) (n : Nat) : Prop where
  out : ∃ a O, O ++ nextGo d f j (X.drop j) = nextGo d f 0 X ∧ O.length ≤ j ∧ m.get ob = some (.cells none tLint 1 [.slice a O.length O.length]) ∧ Ow m ns n tInt 1 a O.length O.length (O.map vi)
  same : ∀ i, i < ns → i ≠ ob → i ≠ Y → m.get i = ms.get i
  gY : m.get Y = some (loopO fSpfNext 65 SL .ready none nPT dn)
  le : ns ≤ n
  fs : Fs ms ns → Fs m n
section
variable {m ms m' : Mem} {n ns n' : Nat} {X : List (Lk × Bool)} {d : List Int} {f ob Y dn : Nat} {SL : Slots} {j : Nat}
theorem NI.ext (h : NI X d f ms ns ob Y dn SL j m n) (ho : ob < ns) (hY : Y < ns) (l : Le m n m' n') (fs : Fs m n → Fs m' n') : NI X d f ms ns ob Y dn SL j m' n' := by
  have hl := l.le
  have h1 := h.le
  obtain ⟨a, O, e1, e2, e3, e4⟩ := h.out
  exact ⟨⟨a, O, e1, e2, l.get (by omega) e3, e4.le l⟩, fun i hi a b => (l.same i (by omega)).trans (h.same i hi a b), l.get (by omega) h.gY, by omega, fun hf => fs (h.fs hf)⟩

theorem next_round {db fb t1 t2 : Nat} {da : Option Addr} {dc : Nat} (hX : X.length ≤ 1000) (hd : ms.get db = some (.cells none tLint 1 [.slice da d.length dc])) (hf : ms.get fb = some (.cells none tInt 1 [vi f])) (hsd : Sl ms ns da dc (d.map vi)) (hfl : f < d.length) (hdb : db < ns ∧ db ≠ ob ∧ db ≠ Y) (hfb : fb < ns ∧ fb ≠ ob ∧ fb ≠ Y) (hob : ob < ns ∧ ob ≠ Y) (hYn : Y < ns)
    (hda : ∀ b o s, da = some ⟨b, o, s⟩ → b ≠ ob ∧ b ≠ Y) {l : Lk} (hval : ∀ v, gd d v ≤ 1000000) (hc : 0 ≤ l.c ∧ l.c ≤ 1000) (hlk : 0 ≤ other l f → other l f < d.length) (hj : X[j]? = some (l, true)) (h : NI X d f ms ns ob Y dn (nSL fb db ob t1 t2) j m n) :
    ∃ m' n', NI X d f ms ns ob Y dn (nSL fb db ob t1 t2) (j + 1) m' n' ∧ n ≤ n' ∧ ∀ Q : Value → Mem → Nat → Prop, Q (.bool true) m' n' → ∃ fr, roundA m Y [vi j, .agg ⟨encL l⟩] = some fr ∧ W Try.prog fr m n Q := by
  have hjl := (List.getElem?_eq_some_iff.1 hj).1
  have hgo := nextGo_drop (d := d) (f := f) hj
  have hns := h.le
  generalize hm1 : (m.set n (.cells none tApiLink 3 [.int .i64 0, .int .i64 0, .int .i64 0])).set n (.cells none tApiLink 3 (encL l)) = ma
  have ka : ∀ i, i ≠ n → ma.get i = m.get i := fun i hi => by rw [← hm1, Tr.get_set, if_neg (fun e => hi e.symm), Tr.get_set, if_neg (fun e => hi e.symm)]
  have ga : ma.get n = some (.cells none tApiLink 3 (encL l)) := by rw [← hm1]; simp [-Bool.exists_bool, Tr.get_set]
  have hst : storeCs (m.set n (.cells none tApiLink 3 [.int .i64 0, .int .i64 0, .int .i64 0])) n 0 (encL l) = some ma := by
    have := store_of (m := m.set n (.cells none tApiLink 3 [.int .i64 0, .int .i64 0, .int .i64 0])) (b := n) (off := 0) (vs := encL l) (T := tApiLink) (sz := 3) (cs := [.int .i64 0, .int .i64 0, .int .i64 0]) (by simp [-Bool.exists_bool, Tr.get_set]) (by simp [-Bool.exists_bool]) (by simp [-Bool.exists_bool, encL, cellOk])
    rw [this, ← hm1]
    simp [-Bool.exists_bool, encL]
  have hla : Le m n ma (n + 1) := ⟨by omega, fun i hi => ka i (by omega)⟩
  have ha := h.ext hob.1 hYn hla fun hf i hi => by rw [ka i (by omega)]; exact hf i (by omega)
  have hYa := ha.gY
  generalize hm3 : ma.set Y (loopO fSpfNext 65 (nSL fb db ob t1 t2) .busy none nPT dn) = m3
  have o3 : ∀ i, i ≠ Y → m3.get i = ma.get i := fun i hi => by rw [← hm3, Tr.get_set, if_neg (fun e => hi e.symm)]
  have gY3 : m3.get Y = some (loopO fSpfNext 65 (nSL fb db ob t1 t2) .busy none nPT dn) := by rw [← hm3]; simp [-Bool.exists_bool, Tr.get_set]
  have low3 : ∀ i, i < ns → i ≠ ob → i ≠ Y → m3.get i = ms.get i := fun i hi h1 h2 => (o3 i h2).trans (ha.same i hi h1 h2)
  have gd3 : m3.get db = some (.cells none tLint 1 [.slice da d.length dc]) := (low3 db hdb.1 hdb.2.1 hdb.2.2).trans hd
  have gf3 : m3.get fb = some (.cells none tInt 1 [vi f]) := (low3 fb hfb.1 hfb.2.1 hfb.2.2).trans hf
  have gl3 : m3.get n = some (.cells none tApiLink 3 (encL l)) := (o3 n (by omega)).trans ga
  have sd3 : Sl m3 (n + 1) da dc (d.map vi) := hsd.same (by omega) fun b o s e => low3 b (hsd.lt e) (hda b o s e).1 (hda b o s e).2
  obtain ⟨a, O, q1, q2, q3, q4⟩ := ha.out
  have q3' : m3.get ob = some (.cells none tLint 1 [.slice a O.length O.length]) := (o3 ob hob.2).trans q3
  have q4' : Ow m3 ns (n + 1) tInt 1 a O.length O.length (O.map vi) := q4.same (Nat.le_refl _) fun b o s e => o3 b (by have := (q4.bnd e).1; omega)
  have fs3 : Fs ms ns → Fs m3 (n + 1) := fun hf => by rw [← hm3]; exact (ha.fs hf).in_ (by omega)
  -- the round's end without an append
  have finN : onP d f l true = false → ∀ n4, n + 1 ≤ n4 → ∃ m5, m3.set Y (loopO fSpfNext 65 (nSL fb db ob t1 t2) .ready none nPT dn) = m5 ∧ NI X d f ms ns ob Y dn (nSL fb db ob t1 t2) (j + 1) m5 n4 := by
    intro hon n4 hn4
    rw [hon] at hgo
    refine ⟨_, rfl, ⟨⟨a, O, by rw [← q1, hgo]; rfl, by omega, by rw [Tr.get_set, if_neg (Ne.symm hob.2)]; exact q3', q4'.same hn4 fun b o s e => by rw [Tr.get_set, if_neg (by have := (q4'.bnd e).1; omega)]⟩, fun i hi h1 h2 => by rw [Tr.get_set, if_neg (fun e => h2 e.symm)]; exact low3 i hi h1 h2, by simp [-Bool.exists_bool, Tr.get_set], by omega, fun hf i hi => by rw [Tr.get_set, if_neg (by omega)]; exact fs3 hf i (by omega)⟩⟩
  have enter : ∀ (Q : Value → Mem → Nat → Prop), (bif decide (other l f ≥ 0) then ∃ p12 k13 k14, rd m3 db 0 = some (.slice p12 k13 k14) ∧ elimA p12 False fun k15 k16 p17 => (0 ≤ other l f ∧ other l f < (k13 : Int) ∧ liveAt m3 k15 = true ∧ (p17 ≠ none → 0 < k14)) ∧ ∃ x18 : Int, rd m3 k15 (offOf k16 p17 + (other l f).toNat * 1) = some (vi x18) ∧
        bif decide (x18 ≥ 0) then ∃ p19 k20 k21, rd m3 db 0 = some (.slice p19 k20 k21) ∧ elimA p19 False fun k22 k23 p24 => (0 ≤ other l f ∧ other l f < (k20 : Int) ∧ liveAt m3 k22 = true ∧ (p24 ≠ none → 0 < k21)) ∧ ∃ x25 : Int, rd m3 k22 (offOf k23 p24 + (other l f).toNat * 1) = some (vi x25) ∧ isC m3 n = true ∧ ∃ x26 : Int, rd m3 n 2 = some (vi x26) ∧
          ∃ p27 k28 k29, rd m3 db 0 = some (.slice p27 k28 k29) ∧ ∃ x30 : Int, rd m3 fb 0 = some (vi x30) ∧ elimA p27 False fun k31 k32 p33 => (0 ≤ x30 ∧ x30 < (k28 : Int) ∧ liveAt m3 k31 = true ∧ (p33 ≠ none → 0 < k29)) ∧ ∃ x34 : Int, rd m3 k31 (offOf k32 p33 + x30.toNat * 1) = some (vi x34) ∧
          bif IntKind.i64.wrap (x25 + x26) == x34 then ∃ p35 k36 k37, rd m3 ob 0 = some (.slice p35 k36 k37) ∧ memLet (Tr.set m3 (n + 1 + 23) (.cells none tInt 1 [vi j])) fun m38 => ∃ p39 k40 k41 m42 k43, appendA Try.prog m38 (n + 1 + 23 + 1) tLint tLint (.slice p35 k36 k37) (.slice (some ⟨n + 1 + 23, 0, none⟩) 1 1) = .val (.slice p39 k40 k41) m42 k43 ∧
            ∃ m44, storeCs m42 ob 0 [.slice p39 k40 k41] = some m44 ∧ ∃ y45 : AObj, Tr.get m44 Y = some y45 ∧ isLp y45 = true ∧ memLet (Tr.set m44 Y (lpSet y45 .ready none)) fun m46 => Q (.bool true) m46 k43
          else ∃ y47 : AObj, Tr.get m3 Y = some y47 ∧ isLp y47 = true ∧ memLet (Tr.set m3 Y (lpSet y47 .ready none)) fun m48 => Q (.bool true) m48 (n + 1 + 23)
        else ∃ y49 : AObj, Tr.get m3 Y = some y49 ∧ isLp y49 = true ∧ memLet (Tr.set m3 Y (lpSet y49 .ready none)) fun m50 => Q (.bool true) m50 (n + 1 + 23)
      else ∃ y51 : AObj, Tr.get m3 Y = some y51 ∧ isLp y51 = true ∧ memLet (Tr.set m3 Y (lpSet y51 .ready none)) fun m52 => Q (.bool true) m52 (n + 1 + 23)) →
      ∃ fr, roundA m Y [vi j, .agg ⟨encL l⟩] = some fr ∧ W Try.prog fr m n Q := by
    intro Q hq
    refine ⟨_, roundA_of h.gY nPT_ok, ?_⟩
    refine W_of mixed (cfg := xcfg) (fuel := 400) ?_
    simp only [encL, vi]
    rw [xSpfNextr0]
    refine memLet.mk fun mm e => ⟨ma, by rw [e]; exact hst, _, hYa, lpReady_of, ?_⟩
    rw [lpBusy_of]
    refine memLet.mk fun mm' e' => ?_
    have e' : mm' = m3 := e'.trans hm3
    subst e'
    exact ⟨l.a, l.b, l.c, rds_of gl3, _, rd_of gf3 rfl, other_c (l := l) ⟨_, rfl, Later.mk hq⟩⟩
  have ldd : ∀ {i : Nat} (hi : i < d.length) {K : Int → Prop}, K (gd d i) → elimA da False fun b o s => (0 ≤ (i : Int) ∧ (i : Int) < (d.length : Int) ∧ liveAt m3 b = true ∧ (s ≠ none → 0 < dc)) ∧ ∃ x : Int, rd m3 b (offOf o s + (i : Int).toNat * 1) = some (vi x) ∧ K x := fun hi K hk => sd3.ldi hi (by rw [gd_get hi]; exact hk)
  by_cases hneg : other l f ≥ 0
  · have hin : (other l f).toNat < d.length := by have := hlk hneg; omega
    have hcast : (((other l f).toNat : Nat) : Int) = other l f := by omega
    by_cases hun : gd d (other l f).toNat ≥ 0
    · have hwr : IntKind.i64.wrap (gd d (other l f).toNat + l.c) = gd d (other l f).toNat + l.c := by have := hval (other l f).toNat; exact wrap_id (by omega) (by omega)
      by_cases heq : gd d (other l f).toNat + l.c = gd d f
      · -- appended
        have hon : onP d f l true = true := by simp [-Bool.exists_bool, onP, hneg, hun, heq]
        rw [hon] at hgo
        generalize hm4 : m3.set (n + 1 + 23) (.cells none tInt 1 [vi j]) = m4
        have k4 : ∀ i, i ≠ n + 1 + 23 → m4.get i = m3.get i := fun i hi => by rw [← hm4, Tr.get_set, if_neg (fun e => hi e.symm)]
        have hsc : sliceCells m4 1 1 (.slice (some ⟨n + 1 + 23, 0, none⟩) 1 1) = some [vi j] := one_cell (T := tInt) (sz := 1) (by rw [← hm4]; simp [-Bool.exists_bool, Tr.get_set])
        have q4'' : Ow m4 ns (n + 1 + 23 + 1) tInt 1 a O.length O.length (O.map vi) := q4'.same (by omega) fun b o s e => k4 b (by have := (q4'.bnd e).2; omega)
        obtain ⟨a5, m5, n5, r1, r2, r3, r4, r5, r6⟩ := q4''.append (t := tLint) (k := 1) intOk hsc (by simp [-Bool.exists_bool, cellOk]) (by simp [-Bool.exists_bool]) (by omega) (by omega)
        have g5 : m5.get ob = some (.cells none tLint 1 [.slice a O.length O.length]) := by
          rw [r5 ob (by omega) (fun b o s e => by have := (q4''.bnd e).1; omega), k4 ob (by omega)]; exact q3'
        generalize hm6 : m5.set ob (.cells none tLint 1 [.slice a5 (O.length + 1) (O.length + 1)]) = m6
        have st6 : storeCs m5 ob 0 [.slice a5 (O.length + 1) (O.length + 1)] = some m6 := by rw [← hm6]; exact store_of g5 (by simp [-Bool.exists_bool]) (by simp [-Bool.exists_bool, cellOk])
        have k6 : ∀ i, i ≠ ob → m6.get i = m5.get i := fun i hi => by rw [← hm6, Tr.get_set, if_neg (fun e => hi e.symm)]
        have low6 : ∀ i, i < ns → i ≠ ob → m6.get i = m3.get i := fun i hi h1 => by
          rw [k6 i h1, r5 i (by omega) (fun b o s e => by have := (q4''.bnd e).1; omega), k4 i (by omega)]
        have gY6 : m6.get Y = some (loopO fSpfNext 65 (nSL fb db ob t1 t2) .busy none nPT dn) := (low6 Y hYn (Ne.symm hob.2)).trans gY3
        generalize hm7 : m6.set Y (loopO fSpfNext 65 (nSL fb db ob t1 t2) .ready none nPT dn) = m7
        have k7 : ∀ i, i ≠ Y → m7.get i = m6.get i := fun i hi => by rw [← hm7, Tr.get_set, if_neg (fun e => hi e.symm)]
        have el : (O ++ [(j : Int)]).length = O.length + 1 := by simp [-Bool.exists_bool]
        have em : (O ++ [(j : Int)]).map vi = O.map vi ++ [vi j] := by simp [-Bool.exists_bool]
        refine ⟨m7, n5, ⟨⟨a5, O ++ [(j : Int)], by rw [← q1, hgo]; simp, by simp; omega, by rw [el, k7 ob hob.2, ← hm6]; simp [-Bool.exists_bool, Tr.get_set], ?_⟩, fun i hi h1 h2 => by rw [k7 i h2, low6 i hi h1]; exact low3 i hi h1 h2, by rw [← hm7]; simp [-Bool.exists_bool, Tr.get_set], by omega, fun hf i hi => ?_⟩, by omega, fun Q hq => enter Q ?_⟩
        · rw [el, em]
          exact r2.same (Nat.le_refl _) fun b o s e => by have := (r2.bnd e).1; rw [k7 b (by omega), k6 b (by omega)]
        · rw [k7 i (by omega), k6 i (by omega)]
          exact r6 (by rw [← hm4]; exact fun i hi => by rw [Tr.get_set, if_neg (by omega)]; exact fs3 hf i (by omega)) i hi
        · refine condDT hneg ⟨_, _, _, rd_of gd3 rfl, ?_⟩
          rw [← hcast]
          refine ldd hin (condDT hun ⟨_, _, _, rd_of gd3 rfl, ldd hin ⟨isC_of gl3, _, rd_of gl3 rfl, _, _, _, rd_of gd3 rfl, _, rd_of gf3 rfl, ldd hfl ?_⟩⟩)
          rw [hwr]
          refine condET heq ⟨_, _, _, rd_of q3' rfl, memLet.mk fun mm e => ?_⟩
          have e : mm = m4 := e.trans hm4
          subst e
          refine ⟨_, _, _, _, _, r1, m6, st6, _, gY6, isLp_of, ?_⟩
          rw [lpSet_of, hm7]
          exact memLet.mk fun _ e => by subst e; exact hq
      · obtain ⟨m5, f1, f2⟩ := finN (by simp [-Bool.exists_bool, onP, heq]) (n + 1 + 23) (by omega)
        refine ⟨m5, _, f2, by omega, fun Q hq => enter Q ?_⟩
        refine condDT hneg ⟨_, _, _, rd_of gd3 rfl, ?_⟩
        rw [← hcast]
        refine ldd hin (condDT hun ⟨_, _, _, rd_of gd3 rfl, ldd hin ⟨isC_of gl3, _, rd_of gl3 rfl, _, _, _, rd_of gd3 rfl, _, rd_of gf3 rfl, ldd hfl ?_⟩⟩)
        rw [hwr]
        refine condEF heq ⟨_, gY3, isLp_of, ?_⟩
        rw [lpSet_of, f1]
        exact memLet.mk fun _ e => by subst e; exact hq
    · obtain ⟨m5, f1, f2⟩ := finN (by simp [-Bool.exists_bool, onP]; omega) (n + 1 + 23) (by omega)
      refine ⟨m5, _, f2, by omega, fun Q hq => enter Q ?_⟩
      refine condDT hneg ⟨_, _, _, rd_of gd3 rfl, ?_⟩
      rw [← hcast]
      refine ldd hin (condDF hun ⟨_, gY3, isLp_of, ?_⟩)
      rw [lpSet_of, f1]
      exact memLet.mk fun _ e => by subst e; exact hq
  · obtain ⟨m5, f1, f2⟩ := finN (by simp [-Bool.exists_bool, onP]; omega) (n + 1 + 23) (by omega)
    refine ⟨m5, _, f2, by omega, fun Q hq => enter Q ?_⟩
    refine condDF hneg ⟨_, gY3, isLp_of, ?_⟩
    rw [lpSet_of, f1]
    exact memLet.mk fun _ e => by subst e; exact hq
end
end Go.Proofs.Ytiomjekkmjinbaa

set_option maxRecDepth 100000
namespace Go.Proofs.Ytiomjekkmjinbaa
open Go Go.Ab Spf

theorem valid_true {N : Nat} {X : List (Lk × Bool)} (hg : (G.mk N X).Ok) {E : List Int} (hE : ∀ x ∈ E, ∃ v : Nat, x = v ∧ v < N) : validP N (X.map (·.1)) X.length E = true := by
  have hmany := hg.many
  have hbig := hg.big
  have hpos := hg.pos
  simp only at hmany hbig hpos
  have h1 : (X.map (·.1)).all (okLk N) = true := by
    rw [List.all_map, List.all_eq_true]
    exact fun x hx => hg.lk x hx
  have h2 : E.all (inN N) = true := by
    rw [List.all_eq_true]
    intro x hx
    obtain ⟨v, rfl, hv⟩ := hE x hx
    simp [-Bool.exists_bool, inN, hv]
  simp only [validP, h1, h2, List.length_map]
  simp; omega

/-- Next, of a valid input. -/
theorem next_ok {m : Mem} {n : Nat} {X : List (Lk × Bool)} {N f t : Nat} (hg : (G.mk N X).Ok) (hf : f < N) (ht : t < N) {la ua : Option Addr} {lc uc : Nat} (hL : Sl m n la lc ((X.map (·.1)).flatMap encL)) (hU : Sl m n ua uc ((X.map (·.2)).map Value.bool)) :
    ∃ m' n' a d, IsDist ⟨N, X⟩ t d ∧ Ow m' n n' tInt 1 a (nextL ⟨N, X⟩ d f).length (nextL ⟨N, X⟩ d f).length ((nextL ⟨N, X⟩ d f).map vi) ∧ Le m n m' n' ∧ (Fs m n → Fs m' n') ∧
      Exact Try.prog fSpfNext [vi N, .slice la X.length lc, .slice ua X.length uc, vi f, vi t] m n (.slice a (nextL ⟨N, X⟩ d f).length (nextL ⟨N, X⟩ d f).length) m' n' := by
  have hmany := hg.many
  have hbig := hg.big
  simp only at hmany hbig
  generalize hm0 : m.set n (.cells none tInt 1 [vi f]) = m0
  generalize hm2 : m0.set (n + 1) (.cells none tInt 1 [vi f, vi t]) = m2
  have hle2 : Le m n m2 (n + 1 + 1) := ⟨by omega, fun i hi => by rw [← hm2, Tr.get_set, if_neg (by omega), ← hm0, Tr.get_set, if_neg (by omega)]⟩
  have g0 : m0.get n = some (.cells none tInt 1 [vi f]) := by rw [← hm0]; simp [-Bool.exists_bool, Tr.get_set]
  have g2 : m2.get n = some (.cells none tInt 1 [vi f]) := by rw [← hm2, Tr.get_set, if_neg (by omega)]; exact g0
  have hE : Sl m2 (n + 1 + 1) (some ⟨n + 1, 0, none⟩) 2 ([(f : Int), (t : Int)].map vi) := by
    have : Ow m2 n (n + 1 + 1) tInt 1 (some ⟨n + 1, 0, none⟩) 2 2 [vi f, vi t] := by rw [← hm2]; exact Ow.new (by omega) rfl
    exact this.sl
  have hok : validP N (X.map (·.1)) X.length [(f : Int), (t : Int)] = true := valid_true hg fun x hx => by
    simp only [List.mem_cons, List.not_mem_nil, or_false] at hx
    rcases hx with rfl | rfl
    · exact ⟨f, rfl, hf⟩
    · exact ⟨t, rfl, ht⟩
  have fs2 : Fs m n → Fs m2 (n + 1 + 1) := fun h => by rw [← hm2, ← hm0]; exact h.set.set
  obtain ⟨m8, k9, da, d, hd, ow8, le8, fs8, run8⟩ := dist_ok hg ht (hL.le hle2) (hU.le hle2)
  have l8 := le8.le
  have hlen := hd.len
  simp only at hlen
  generalize hm14 : (m8.set k9 (.cells none tLint 1 [.slice none 0 0])).set k9 (.cells none tLint 1 [.slice da d.length d.length]) = m14
  have st14 : storeCs (m8.set k9 (.cells none tLint 1 [.slice none 0 0])) k9 0 [.slice da d.length d.length] = some m14 := by
    have := store_of (m := m8.set k9 (.cells none tLint 1 [.slice none 0 0])) (b := k9) (off := 0) (vs := [.slice da d.length d.length]) (T := tLint) (sz := 1) (cs := [.slice none 0 0]) (by simp [-Bool.exists_bool, Tr.get_set]) (by simp [-Bool.exists_bool]) (by simp [-Bool.exists_bool, cellOk])
    rw [this, ← hm14]; simp [-Bool.exists_bool]
  generalize hm17 : ((m14.set (k9 + 1) (.cells none tLint 1 [.slice none 0 0])).set (k9 + 1 + 1) (.cells none tLapiLink 1 [.slice la X.length lc])).set (k9 + 1 + 1 + 1) (.cells none tLbool 1 [.slice ua X.length uc]) = m17
  generalize hSL : nSL n k9 (k9 + 1) (k9 + 1 + 1) (k9 + 1 + 1 + 1) = SL
  generalize hms : (m17.set (k9 + 1 + 1 + 1 + 1) (.deferred (some []))).set (k9 + 1 + 1 + 1 + 1 + 1) (loopO fSpfNext 65 SL .ready none nPT (k9 + 1 + 1 + 1 + 1)) = ms
  have ks : ∀ i, i < k9 → ms.get i = m8.get i := fun i hi => by
    rw [← hms, Tr.get_set, if_neg (by omega), Tr.get_set, if_neg (by omega), ← hm17, Tr.get_set, if_neg (by omega), Tr.get_set, if_neg (by omega), Tr.get_set, if_neg (by omega), ← hm14, Tr.get_set, if_neg (by omega), Tr.get_set, if_neg (by omega)]
  have gsd : ms.get k9 = some (.cells none tLint 1 [.slice da d.length d.length]) := by
    rw [← hms, Tr.get_set, if_neg (by omega), Tr.get_set, if_neg (by omega), ← hm17, Tr.get_set, if_neg (by omega), Tr.get_set, if_neg (by omega), Tr.get_set, if_neg (by omega), ← hm14]; simp [-Bool.exists_bool, Tr.get_set]
  have gso : ms.get (k9 + 1) = some (.cells none tLint 1 [.slice none 0 0]) := by
    rw [← hms, Tr.get_set, if_neg (by omega), Tr.get_set, if_neg (by omega), ← hm17, Tr.get_set, if_neg (by omega), Tr.get_set, if_neg (by omega)]; simp [-Bool.exists_bool, Tr.get_set]
  have gs1 : ms.get (k9 + 1 + 1) = some (.cells none tLapiLink 1 [.slice la X.length lc]) := by
    rw [← hms, Tr.get_set, if_neg (by omega), Tr.get_set, if_neg (by omega), ← hm17, Tr.get_set, if_neg (by omega)]; simp [-Bool.exists_bool, Tr.get_set]
  have gs2 : ms.get (k9 + 1 + 1 + 1) = some (.cells none tLbool 1 [.slice ua X.length uc]) := by
    rw [← hms, Tr.get_set, if_neg (by omega), Tr.get_set, if_neg (by omega), ← hm17]; simp [-Bool.exists_bool, Tr.get_set]
  have gsn : ms.get (k9 + 1 + 1 + 1 + 1) = some (.deferred (some [])) := by
    rw [← hms, Tr.get_set, if_neg (by omega)]; simp [-Bool.exists_bool, Tr.get_set]
  have gsY : ms.get (k9 + 1 + 1 + 1 + 1 + 1) = some (loopO fSpfNext 65 SL .ready none nPT (k9 + 1 + 1 + 1 + 1)) := by rw [← hms]; simp [-Bool.exists_bool, Tr.get_set]
  have gsf : ms.get n = some (.cells none tInt 1 [vi f]) := by rw [ks n (by omega), le8.same n (by omega)]; exact g2
  have hleS : Le m8 k9 ms (k9 + 1 + 1 + 1 + 1 + 2) := ⟨by omega, ks⟩
  have sd : Sl ms (k9 + 1 + 1 + 1 + 1 + 2) da d.length (d.map vi) := ow8.sl.le hleS
  have hle : Le m n ms (k9 + 1 + 1 + 1 + 1 + 2) := (hle2.trans le8).trans hleS
  have fsS : Fs m n → Fs ms (k9 + 1 + 1 + 1 + 1 + 2) := fun h i hi => by
    rw [← hms, Tr.get_set, if_neg (by omega), Tr.get_set, if_neg (by omega), ← hm17, Tr.get_set, if_neg (by omega), Tr.get_set, if_neg (by omega), Tr.get_set, if_neg (by omega), ← hm14, Tr.get_set, if_neg (by omega), Tr.get_set, if_neg (by omega)]
    exact fs8 (fs2 h) i (by omega)
  have I0 : NI X d f ms (k9 + 1 + 1 + 1 + 1 + 2) (k9 + 1) (k9 + 1 + 1 + 1 + 1 + 1) (k9 + 1 + 1 + 1 + 1) SL 0 ms (k9 + 1 + 1 + 1 + 1 + 2) :=
    ⟨⟨none, [], rfl, Nat.le_refl _, gso, Ow.nil⟩, fun _ _ _ _ => rfl, gsY, Nat.le_refl _, id⟩
  obtain ⟨m7, n7, I7, hn7, run7⟩ := filter_loop (X := X) (Y := k9 + 1 + 1 + 1 + 1 + 1) (t2 := k9 + 1 + 1 + 1) (la := la) (ua := ua) (lc := lc) (uc := uc) (by omega)
    (fun j m n => NI X d f ms (k9 + 1 + 1 + 1 + 1 + 2) (k9 + 1) (k9 + 1 + 1 + 1 + 1 + 1) (k9 + 1 + 1 + 1 + 1) SL j m n)
    (fun j m2 n2 hI => (hL.le hle).same hI.le fun b o s e => hI.same b (by have := hL.lt e; omega) (by have := hL.lt e; omega) (by have := hL.lt e; omega))
    (fun j m2 n2 hI => ⟨by rw [hI.same _ (by omega) (by omega) (by omega)]; exact gs2, by have := hI.le; omega, (hU.le hle).same hI.le fun b o s e => hI.same b (by have := hU.lt e; omega) (by have := hU.lt e; omega) (by have := hU.lt e; omega)⟩)
    (fun j m n m' n' hI l fs => hI.ext (by omega) (by omega) l fs)
    (fun j l m n hj hI => by
      obtain ⟨a, O, e1, e2, e3, e4⟩ := hI.out
      refine ⟨⟨a, O, ?_, by omega, e3, e4⟩, hI.same, hI.gY, hI.le, hI.fs⟩
      rw [← e1, nextGo_drop hj]; simp [-Bool.exists_bool, onP])
    (fun j l m n hj hI => by
      subst hSL
      have hlk := hg.at hj
      have hmem := (ow8.bnd (b := 0) (o := 0) (s := none))
      exact next_round (by omega) gsd gsf sd (by omega) (by omega) (by omega) (by omega) (by omega) (fun b o s e => by have := ow8.bnd e; omega) (fun v => by have := hd.val v; omega) (by omega) (fun h0 => by
        rcases other_cases (l := l) (n := (f : Int)) with ⟨_, e⟩ | ⟨_, _, e⟩ | ⟨_, _, e⟩ <;> simp only at hlk <;> omega) hj hI)
    X.length 0 ms (k9 + 1 + 1 + 1 + 1 + 2) (by omega) I0
  obtain ⟨a, O, e1, e2, e3, e4⟩ := I7.out
  simp only [List.drop_length, nextGo, List.append_nil] at e1
  have hO : O = nextL ⟨N, X⟩ d f := e1
  subst hO
  generalize hm8 : m7.set (k9 + 1 + 1 + 1 + 1 + 1) (loopO fSpfNext 65 SL .exhausted none nPT (k9 + 1 + 1 + 1 + 1)) = m28
  have k28 : ∀ i, i ≠ k9 + 1 + 1 + 1 + 1 + 1 → m28.get i = m7.get i := fun i hi => by rw [← hm8, Tr.get_set, if_neg (fun e => hi e.symm)]
  have gn28 : m28.get (k9 + 1 + 1 + 1 + 1) = some (.deferred (some [])) := by rw [k28 _ (by omega), I7.same _ (by omega) (by omega) (by omega)]; exact gsn
  have go28 : m28.get (k9 + 1) = some (.cells none tLint 1 [.slice a (nextL ⟨N, X⟩ d f).length (nextL ⟨N, X⟩ d f).length]) := by rw [k28 _ (by omega)]; exact e3
  generalize hm32 : m28.set (k9 + 1 + 1 + 1 + 1) (.deferred none) = m32
  have k32 : ∀ i, i ≠ k9 + 1 + 1 + 1 + 1 → i ≠ k9 + 1 + 1 + 1 + 1 + 1 → m32.get i = m7.get i := fun i h1 h2 => by rw [← hm32, Tr.get_set, if_neg (fun e => h1 e.symm), k28 i h2]
  refine ⟨m32, n7, a, d, hd, (e4.low (by omega)).same (Nat.le_refl _) fun b o s e => by have := (e4.bnd e).1; exact k32 b (by omega) (by omega), ⟨by omega, fun i hi => ?_⟩, fun hfs i hi => ?_, fun Q hq => ?_⟩
  · rw [k32 i (by omega) (by omega), I7.same i (by omega) (by omega) (by omega), hle.same i hi]
  · rw [k32 i (by omega) (by omega)]; exact I7.fs (fsS hfs) i hi
  · refine Wc_of mixed (cfg := xcfg) (fuel := 400) ?_
    rw [xSpfNext]
    refine memLet.mk fun ma ea => ?_
    have ea : ma = m0 := ea.trans hm0
    subst ea
    refine ⟨_, rd_of g0 rfl, memLet.mk fun mb eb => ?_⟩
    have eb : mb = m2 := eb.trans hm2
    subst eb
    refine valid_x (L := X.map (·.1)) (E := [(f : Int), (t : Int)]) (by simp [-Bool.exists_bool]) rfl (hL.le hle2) hE (by simp [-Bool.exists_bool]) ⟨_, rfl, Later.mk ?_⟩
    rw [hok]
    refine condF rfl (run8 _ ⟨_, _, _, rfl, Later.mk (memLet.mk fun mc ec => ⟨m14, by rw [ec]; exact st14, memLet.mk fun md ed => ?_⟩)⟩)
    refine Wc_of mixed (cfg := xcfg) (fuel := 400) ?_
    rw [xSpffilterapiLink]
    refine memLet.mk fun me ee => memLet.mk fun mf ef => ?_
    have ef : mf = m17 := by rw [ef, ee, ed]; exact hm17
    subst ef
    refine ⟨_, _, _, rfl, Later.mk (memLet.mk fun mg eg => ?_)⟩
    have eg : mg = ms := by rw [eg, ← hms, ← hSL]
    subst eg
    refine Wc_of mixed (cfg := xcfg) (fuel := 400) (?_ : Xc Try.prog xcfg 400 fSpffilterapiLink1 [.func (.yield (k9 + 1 + 1 + 1 + 1 + 1)) ⟨[]⟩ ⟨[]⟩, pp (k9 + 1 + 1), pp (k9 + 1 + 1 + 1)] _ _ _)
    rw [xSpffilterapiLink1]
    refine ⟨_, _, _, rd_of gs1 rfl, run7 _ ⟨.ready, none, by rw [I7.gY, ← hSL], rfl, Later.mk (memLet.mk fun mh eh => ?_)⟩⟩
    have eh : mh = m28 := by rw [eh, ← hm8, ← hSL]
    subst eh
    refine ⟨_, _, _, rd_of go28 rfl, gn28, memLet.mk fun mi ei => ?_⟩
    have ei : mi = m32 := ei.trans hm32
    subst ei
    exact hq
end Go.Proofs.Ytiomjekkmjinbaa

set_option maxRecDepth 100000
/- Distances of a given network, checked by a program. -/
namespace Spf
def edgeOk (d : List Int) (x y c : Int) : Bool := decide (gd d x.toNat < 0) || (decide (0 ≤ gd d y.toNat) && decide (gd d y.toNat ≤ gd d x.toNat + c))
def backOk (g : G) (f : Nat) (d : List Int) (v : Nat) : Bool := decide (gd d v < 0) || (v == f || g.X.any fun p => p.2 && (decide (0 ≤ other p.1 v) && (decide (0 ≤ gd d (other p.1 v).toNat) && decide (gd d v = gd d (other p.1 v).toNat + p.1.c))))
def chk (g : G) (f : Nat) (d : List Int) : Bool :=
  (d.length == g.N && decide (f < g.N)) && (d.all (fun x => decide (-1 ≤ x) && decide (x ≤ 32000)) && (decide (gd d f = 0) && (g.X.all (fun p => !p.2 || (edgeOk d p.1.a p.1.b p.1.c && edgeOk d p.1.b p.1.a p.1.c)) && (List.range g.N).all (backOk g f d))))
theorem chk_sound {g : G} (hg : g.Ok) {f : Nat} {d : List Int} (h : chk g f d = true) : IsDist g f d := by
  simp only [chk, Bool.and_eq_true, beq_iff_eq, decide_eq_true_eq, List.all_eq_true] at h
  obtain ⟨⟨h1, h2⟩, h3, h4, h5, h6⟩ := h
  have hin : ∀ v, -1 ≤ gd d v ∧ gd d v ≤ 32000 := fun v => by
    rcases Nat.lt_or_ge v d.length with hv | hv
    · rw [← gd_get hv]; exact h3 _ (List.getElem_mem hv)
    · rw [gd_out hv]; omega
  refine ⟨h1, h2, fun v => (hin v).1, h4, fun i x y c s hx => ?_, fun v hv => ?_, fun v => (hin v).2⟩
  · obtain ⟨l, s1, s2, s3⟩ := s
    have hb := hg.at s1
    have he := h5 _ (List.mem_of_getElem? s1)
    simp only [Bool.not_true, Bool.false_or, Bool.and_eq_true, edgeOk, Bool.or_eq_true, decide_eq_true_eq] at he
    subst s3
    rcases other_cases (l := l) (n := (x : Int)) with ⟨e1, e2⟩ | ⟨_, e1, e2⟩ | ⟨_, _, e2⟩
    · have : (x : Int).toNat = x := by omega
      have hy : l.b.toNat = y := by omega
      have hx2 : l.a.toNat = x := by omega
      have := he.1
      rw [hx2, hy] at this
      omega
    · have hy : l.a.toNat = y := by omega
      have hx2 : l.b.toNat = x := by omega
      have := he.2
      rw [hx2, hy] at this
      omega
    · omega
  · have hvN : v < g.N := by
      rcases Nat.lt_or_ge v g.N with h | h
      · exact h
      · rw [gd_out (by omega)] at hv; omega
    have hb := h6 v (List.mem_range.2 hvN)
    simp only [backOk, Bool.or_eq_true, decide_eq_true_eq, beq_iff_eq, List.any_eq_true, Bool.and_eq_true] at hb
    rcases hb with hb | hb | ⟨p, hp, hb⟩
    · omega
    · exact .inl hb
    · obtain ⟨l, u⟩ := p
      simp only at hb
      obtain ⟨rfl, h7, h8, h9⟩ := hb
      obtain ⟨i, hi⟩ := List.mem_iff_getElem?.1 hp
      have s : St g i v (other l v).toNat l.c := ⟨l, hi, by omega, rfl⟩
      exact .inr ⟨i, _, l.c, s.symm hg, h8, h9⟩
end Spf

set_option maxRecDepth 100000
namespace Go.Proofs.Ytiomjekkmjinbaa
open Go Go.Ab Spf
section
variable {X : List (Lk × Bool)} {N f t : Nat} {la ua : Option Addr} {lc uc : Nat}
end

/-- What the functions say of any input. -/
def mkG (N : Int) (L : List Lk) (U : List Bool) : G := ⟨N.toNat, L.zip U⟩
theorem valid_iff {N : Int} {L : List Lk} {U : List Bool} {E : List Int} (h : validP N L U.length E = true) : (mkG N L U).Ok ∧ (L.zip U).map (·.1) = L ∧ (L.zip U).map (·.2) = U ∧ (L.zip U).length = L.length ∧ U.length = L.length ∧ N = (N.toNat : Int) ∧ ∀ x ∈ E, x = (x.toNat : Int) ∧ x.toNat < N.toNat := by
  simp only [validP, Bool.and_eq_true, decide_eq_true_eq, List.all_eq_true] at h
  obtain ⟨⟨h1, h2⟩, h3, h4, h5, h6⟩ := h
  have e1 : (L.zip U).map (·.1) = L := by
    have := List.map_fst_zip (l₁ := L) (l₂ := U) (by omega)
    exact this
  have e2 : (L.zip U).map (·.2) = U := by
    have := List.map_snd_zip (l₁ := L) (l₂ := U) (by omega)
    exact this
  have e3 : (L.zip U).length = L.length := by simp; omega
  have e4 : N = (N.toNat : Int) := by omega
  refine ⟨⟨by show 1 ≤ N.toNat; omega, by show N.toNat ≤ 32; omega, by show (L.zip U).length ≤ 128; omega, fun x hx => ?_⟩, e1, e2, e3, h4, e4, fun x hx => ?_⟩
  · have := h5 x.1 (by rw [← e1]; exact List.mem_map_of_mem hx)
    rw [e4] at this; exact this
  · have := h6 x hx
    simp only [inN, Bool.and_eq_true, decide_eq_true_eq] at this
    omega
def DistR (N : Int) (L : List Lk) (U : List Bool) (f : Int) (D : List Int) : Prop := if validP N L U.length [f] = true then IsDist (mkG N L U) f.toNat D else D = []
def NextR (N : Int) (L : List Lk) (U : List Bool) (f t : Int) (D : List Int) : Prop := if validP N L U.length [f, t] = true then ∃ d, IsDist (mkG N L U) t.toNat d ∧ D = nextL (mkG N L U) d f.toNat else D = []
section
variable {N f t : Int} {L : List Lk} {U : List Bool}
theorem DistR.uniq {D E : List Int} (h : DistR N L U f D) (k : DistR N L U f E) : D = E := by
  unfold DistR at h k
  split at h
  · rename_i hv; rw [if_pos hv] at k; exact h.uniq (valid_iff hv).1 k
  · rename_i hv; rw [if_neg hv] at k; rw [h, k]
theorem NextR.uniq {D E : List Int} (h : NextR N L U f t D) (k : NextR N L U f t E) : D = E := by
  unfold NextR at h k
  split at h
  · rename_i hv; rw [if_pos hv] at k
    obtain ⟨d, h1, rfl⟩ := h
    obtain ⟨e, k1, rfl⟩ := k
    rw [h1.uniq (valid_iff hv).1 k1]
  · rename_i hv; rw [if_neg hv] at k; rw [h, k]
variable {m : Mem} {n : Nat} {la ua : Option Addr} {lc uc ll ul : Nat}
theorem dist_c (hll : L.length = ll) (hul : U.length = ul) (hL : Sl m n la lc (L.flatMap encL)) (hU : Sl m n ua uc (U.map Value.bool)) :
    ∃ m' n' a D, DistR N L U f D ∧ Ow m' n n' tInt 1 a D.length D.length (D.map vi) ∧ Le m n m' n' ∧ (Fs m n → Fs m' n') ∧ Exact Try.prog fSpfDist [vi N, .slice la ll lc, .slice ua ul uc, vi f] m n (.slice a D.length D.length) m' n' := by
  subst hll; subst hul
  cases hv : validP N L U.length [f] with
  | true =>
    obtain ⟨hg, e1, e2, e3, e4, e5, e6⟩ := valid_iff hv
    obtain ⟨hf1, hf2⟩ := e6 f (by simp [-Bool.exists_bool])
    rw [← e1] at hL; rw [← e2] at hU
    obtain ⟨m', n', a, d, h1, h2, h3, h4, run⟩ := dist_ok hg hf2 hL hU
    refine ⟨m', n', a, d, by unfold DistR; rw [if_pos hv]; exact h1, h2, h3, h4, ?_⟩
    rw [← e5, ← hf1, e3] at run
    rw [e4]; exact run
  | false =>
    generalize hm1 : m.set n (.cells none tInt 1 [vi f]) = m1
    have hle1 : Le m n m1 (n + 1) := by rw [← hm1]; exact Le.new
    have hE : Sl m1 (n + 1) (some ⟨n, 0, none⟩) 1 ([f].map vi) := by
      have : Ow m1 n (n + 1) tInt 1 (some ⟨n, 0, none⟩) 1 1 [vi f] := by rw [← hm1]; exact Ow.new (Nat.le_refl _) rfl
      exact this.sl
    refine ⟨m1, n + 1, none, [], by unfold DistR; rw [if_neg (by simp [-Bool.exists_bool, hv])], Ow.nil, hle1, fun hf => by rw [← hm1]; exact hf.set, fun Q hq => ?_⟩
    refine Wc_of mixed (cfg := xcfg) (fuel := 400) ?_
    rw [xSpfDist]
    refine memLet.mk fun ma ea => ?_
    have ea : ma = m1 := ea.trans hm1
    subst ea
    refine valid_x (L := L) (E := [f]) rfl rfl (hL.le hle1) hE (by simp [-Bool.exists_bool]) ⟨_, rfl, Later.mk ?_⟩
    rw [hv]
    exact condT rfl ⟨[], ⟨rfl, List.Pairwise.nil, (fun _ h => nomatch h)⟩, memLet.mk fun _ e => by subst e; exact hq⟩
theorem next_c (hll : L.length = ll) (hul : U.length = ul) (hL : Sl m n la lc (L.flatMap encL)) (hU : Sl m n ua uc (U.map Value.bool)) :
    ∃ m' n' a D, NextR N L U f t D ∧ Ow m' n n' tInt 1 a D.length D.length (D.map vi) ∧ Le m n m' n' ∧ (Fs m n → Fs m' n') ∧ Exact Try.prog fSpfNext [vi N, .slice la ll lc, .slice ua ul uc, vi f, vi t] m n (.slice a D.length D.length) m' n' := by
  subst hll; subst hul
  cases hv : validP N L U.length [f, t] with
  | true =>
    obtain ⟨hg, e1, e2, e3, e4, e5, e6⟩ := valid_iff hv
    obtain ⟨hf1, hf2⟩ := e6 f (by simp [-Bool.exists_bool])
    obtain ⟨ht1, ht2⟩ := e6 t (by simp [-Bool.exists_bool])
    rw [← e1] at hL; rw [← e2] at hU
    obtain ⟨m', n', a, d, h1, h2, h3, h4, run⟩ := next_ok hg hf2 ht2 hL hU
    refine ⟨m', n', a, _, by unfold NextR; rw [if_pos hv]; exact ⟨d, h1, rfl⟩, h2, h3, h4, ?_⟩
    rw [← e5, ← hf1, ← ht1, e3] at run
    rw [e4]; exact run
  | false =>
    generalize hm0 : m.set n (.cells none tInt 1 [vi f]) = m0
    generalize hm1 : m0.set (n + 1) (.cells none tInt 1 [vi f, vi t]) = m1
    have hle1 : Le m n m1 (n + 1 + 1) := ⟨by omega, fun i hi => by rw [← hm1, Tr.get_set, if_neg (by omega), ← hm0, Tr.get_set, if_neg (by omega)]⟩
    have g0 : m0.get n = some (.cells none tInt 1 [vi f]) := by rw [← hm0]; simp [-Bool.exists_bool, Tr.get_set]
    have hE : Sl m1 (n + 1 + 1) (some ⟨n + 1, 0, none⟩) 2 ([f, t].map vi) := by
      have : Ow m1 n (n + 1 + 1) tInt 1 (some ⟨n + 1, 0, none⟩) 2 2 [vi f, vi t] := by rw [← hm1]; exact Ow.new (by omega) rfl
      exact this.sl
    refine ⟨m1, n + 1 + 1, none, [], by unfold NextR; rw [if_neg (by simp [-Bool.exists_bool, hv])], Ow.nil, hle1, fun hf => by rw [← hm1, ← hm0]; exact hf.set.set, fun Q hq => ?_⟩
    refine Wc_of mixed (cfg := xcfg) (fuel := 400) ?_
    rw [xSpfNext]
    refine memLet.mk fun ma ea => ?_
    have ea : ma = m0 := ea.trans hm0
    subst ea
    refine ⟨_, rd_of g0 rfl, memLet.mk fun mb eb => ?_⟩
    have eb : mb = m1 := eb.trans hm1
    subst eb
    refine valid_x (L := L) (E := [f, t]) rfl rfl (hL.le hle1) hE (by simp [-Bool.exists_bool]) ⟨_, rfl, Later.mk ?_⟩
    rw [hv]
    exact condT rfl hq
end
end Go.Proofs.Ytiomjekkmjinbaa

set_option maxRecDepth 100000
namespace Go.Proofs.Ytiomjekkmjinbaa
open Go Go.Ab Spf
section
variable {m : Mem} {n : Nat}

theorem bool_congr {a b : Bool} (h : a = true ↔ b = true) : a = b := by cases a <;> cases b <;> simp_all
/-- Same, of numbers. -/
theorem same_loop {A B : List Int} {aa ba : Option Addr} {ac bc : Nat} {m0 : Mem} {n0 : Nat} (hA : Sl m0 n0 aa ac (A.map vi)) (hB : Sl m0 n0 ba bc (B.map vi)) (hl : A.length = B.length) (hbig : A.length ≤ 9223372036854775807) :
    ∀ (l pre : List Int) (n : Nat), A = pre ++ l → n0 ≤ n → W Try.prog { fn := fKitSameint, nt := 26, slots := [(0, .slice aa A.length ac), (1, .slice ba B.length bc), (5, .int .i64 pre.length)], todo := pt Try.prog fKitSameint [1, 1, 0, 1, 0, 0] } m0 n fun v m' n' => v = .bool (decide (l = B.drop pre.length)) ∧ Le m0 n0 m' n'
  | [], pre, n, h, hn => by
    refine W_of mixed (cfg := xcfg) (fuel := 400) ?_
    rw [xKitSameintk0]
    simp only [List.append_nil] at h
    refine condDF (by simp [-Bool.exists_bool, h]) ⟨?_, Le.refl.up hn⟩
    subst h; rw [hl]; simp [-Bool.exists_bool]
  | y :: l, pre, n, h, hn => by
    have hlt : pre.length < A.length := by simp [-Bool.exists_bool, h]
    have hltb : pre.length < B.length := by omega
    have hy : A[pre.length] = y := by simp [-Bool.exists_bool, h]
    have hlen : (((pre ++ [y]).length : Nat) : Int) = ((pre.length + 1 : Nat) : Int) := by simp [-Bool.exists_bool]
    have nxt := same_loop hA hB hl hbig l (pre ++ [y]) (n + 9) (by simp [-Bool.exists_bool, h]) (by omega)
    rw [hlen, ← wrapN (k := pre.length) (by omega)] at nxt
    refine W_of mixed (cfg := xcfg) (fuel := 400) ?_
    rw [xKitSameintk0]
    refine condDT (by omega) (hA.ldi hlt ?_)
    rw [hy]
    refine hB.ldi hltb ?_
    have hd : B.drop pre.length = B[pre.length] :: B.drop (pre.length + 1) := List.drop_eq_getElem_cons hltb
    refine condN (fun hne => ⟨?_, Le.refl.up (by omega)⟩) fun he => ?_
    · rw [decide_eq_false (fun e => hne (List.cons.inj (e.trans hd)).1)]
    · refine W.mono nxt fun v m' n' ⟨h1, h2⟩ => ⟨?_, h2⟩
      rw [h1, List.length_append, List.length_singleton]
      congr 1
      have : (l = B.drop (pre.length + 1)) ↔ (y :: l = B.drop pre.length) := ⟨fun e => by rw [hd, ← e, he], fun e => (List.cons.inj (e.trans hd)).2⟩
      exact bool_congr (by simp only [decide_eq_true_eq]; exact this)
theorem same_c {A B : List Int} {aa ba : Option Addr} {al bl ac bc : Nat} (e1 : A.length = al) (e2 : B.length = bl) (hA : Sl m n aa ac (A.map vi)) (hB : Sl m n ba bc (B.map vi)) (hbig : A.length ≤ 9223372036854775807) {Q : Value → Mem → Nat → Prop} (hq : Q (.bool (decide (A = B))) m n) :
    Wc Try.prog fKitSameint [.slice aa al ac, .slice ba bl bc] m n Q := by
  subst e1; subst e2
  refine Wc.scalar ?_ rfl hq
  refine Wc_of mixed (cfg := xcfg) (fuel := 400) ?_
  rw [xKitSameint]
  refine condN (fun h => ⟨?_, Le.refl⟩) fun h => ?_
  · rw [decide_eq_false (by rintro rfl; exact h rfl)]
  · exact same_loop hA hB (by omega) hbig A [] n rfl (Nat.le_refl _)

theorem linkOk : elemOk Try.prog tLapiLink tApiLink 3 = true := by kernel_rfl
/-- Pick. -/
def pickM (x n : Int) : Int := if x.tmod n < 0 then x.tmod n + n else x.tmod n
theorem pickM_bnd {x n : Int} (h : 0 < n) : 0 ≤ pickM x n ∧ pickM x n < n := by
  have h1 := Int.tmod_lt_of_pos x h
  have h2 : -n < x.tmod n := by
    have h3 := Int.tmod_lt_of_pos (-x) h
    rw [Int.neg_tmod] at h3; omega
  unfold pickM; split <;> omega
theorem pick_c {x k : Int} (h : 0 < k) (hk : k ≤ 1000000) {Q : Value → Mem → Nat → Prop} (hq : Q (vi (pickM x k)) m n) : Wc Try.prog fKitPick [vi x, vi k] m n Q := by
  refine Wc_of mixed (cfg := xcfg) (fuel := 400) ?_
  rw [xKitPick]
  have h1 := Int.tmod_lt_of_pos x h
  have h2 : -k < x.tmod k := by
    have h3 := Int.tmod_lt_of_pos (-x) h
    rw [Int.neg_tmod] at h3; omega
  refine ⟨by omega, condD (fun hn => ?_) fun hn => ?_⟩
  · rw [wrap_id (by omega) (by omega)]
    unfold pickM at hq; rw [if_pos hn] at hq; exact hq
  · unfold pickM at hq; rw [if_neg hn] at hq; exact hq
/-- The functions on a network. -/
@[reducible] def netV (N : Int) (la : Option Addr) (ll lc : Nat) (ua : Option Addr) (ul uc : Nat) : Value := .agg ⟨[vi N, .slice la ll lc, .slice ua ul uc]⟩
variable {N f t : Int} {L : List Lk} {U : List Bool} {la ua : Option Addr} {ll lc ul uc : Nat}
end
end Go.Proofs.Ytiomjekkmjinbaa

set_option maxRecDepth 100000
namespace Go.Proofs.Ytiomjekkmjinbaa
open Go Go.Ab Spf
section
variable {N f t : Int} {L : List Lk} {U : List Bool}
theorem distR_of {D : List Int} (h1 : validP N L U.length [f] = true) (h2 : chk (mkG N L U) f.toNat D = true) : DistR N L U f D := by
  unfold DistR; rw [if_pos h1]; exact chk_sound (valid_iff h1).1 h2
theorem nextR_of {D : List Int} (d : List Int) (h1 : validP N L U.length [f, t] = true) (h2 : chk (mkG N L U) t.toNat d = true) (h3 : nextL (mkG N L U) d f.toNat = D) : NextR N L U f t D := by
  unfold NextR; rw [if_pos h1]; exact ⟨d, chk_sound (valid_iff h1).1 h2, h3.symm⟩
end
def upU (down : List Int) (k : Nat) : List Bool := (List.range k).map fun i : Nat => !down.contains (i : Int)
section
variable {m : Mem} {n : Nat}
theorem has_loop {X : List Int} {xa : Option Addr} {xc : Nat} {v : Int} (hx : Sl m n xa xc (X.map vi)) (hl : X.length ≤ 1000) {Q : Value → Mem → Nat → Prop} : ∀ l pre, X = pre ++ l → Q (.bool (l.contains v)) m n →
    W Try.prog { fn := fKitHasint, nt := 18, slots := [(0, .slice xa X.length xc), (1, vi v), (5, .int .i64 pre.length)], todo := pt Try.prog fKitHasint [1, 0, 1, 0, 0] } m n Q
  | [], pre, h, hq => by
    refine W_of mixed (cfg := xcfg) (fuel := 400) ?_
    rw [xKitHasintk0]
    exact condDF (by simp [-Bool.exists_bool, h]) hq
  | y :: l, pre, h, hq => by
    refine W_of mixed (cfg := xcfg) (fuel := 400) ?_
    rw [xKitHasintk0]
    have hlt : pre.length < X.length := by simp [-Bool.exists_bool, h]
    have hy : X[pre.length] = y := by simp [-Bool.exists_bool, h]
    have hlen : (((pre ++ [y]).length : Nat) : Int) = ((pre.length + 1 : Nat) : Int) := by simp [-Bool.exists_bool]
    refine condDT (by omega) (hx.ldi hlt ?_)
    rw [hy]
    refine condE (fun e => ?_) fun e => ?_
    · have : (y :: l).contains v = true := by simp [-Bool.exists_bool, e]
      rw [this] at hq; exact hq
    · have nxt := has_loop hx hl (v := v) (Q := Q) l (pre ++ [y]) (by simp [-Bool.exists_bool, h]) (by
        have : (y :: l).contains v = l.contains v := by simp [-Bool.exists_bool, Ne.symm e]
        rw [this] at hq; exact hq)
      rw [hlen, ← wrapN (k := pre.length) (by omega)] at nxt
      exact nxt
theorem has_c {X : List Int} {xa : Option Addr} {xl xc : Nat} {v : Int} (e : X.length = xl) (hx : Sl m n xa xc (X.map vi)) (hl : X.length ≤ 1000) {Q : Value → Mem → Nat → Prop} (hq : Q (.bool (X.contains v)) m n) : Wc Try.prog fKitHasint [.slice xa xl xc, vi v] m n Q := by
  subst e
  refine Wc_of mixed (cfg := xcfg) (fuel := 400) ?_
  rw [xKitHasint]
  exact has_loop hx hl X [] rfl hq

theorem upU_succ {down : List Int} {k : Nat} : upU down (k + 1) = upU down k ++ [!down.contains (k : Int)] := by simp [-Bool.exists_bool, upU, List.range_succ]
end
end Go.Proofs.Ytiomjekkmjinbaa

set_option maxRecDepth 100000
namespace Go.Proofs.Ytiomjekkmjinbaa
open Go Go.Ab Spf
section
variable {m m' : Mem} {n n' : Nat} {N : Int} {L : List Lk} {U : List Bool} {la ua : Option Addr} {ll lc ul uc : Nat}
theorem ldx {D : List Int} {a : Option Addr} {c : Nat} (h : Sl m n a c (D.map vi)) {x : Int} (h0 : 0 ≤ x) (h1 : x < D.length) {K : Int → Prop} (hk : K (gd D x.toNat)) :
    elimA a False fun b o s => (0 ≤ x ∧ x < (D.length : Int) ∧ liveAt m b = true ∧ (s ≠ none → 0 < c)) ∧ ∃ y : Int, rd m b (offOf o s + x.toNat * 1) = some (vi y) ∧ K y := by
  have hi : x.toNat < D.length := by omega
  have := h.ldi hi (K := K) (by rw [gd_get hi]; exact hk)
  rw [show ((x.toNat : Nat) : Int) = x by omega] at this
  exact this
/-- What came in. -/
theorem undInt : Try.prog.underlying tInt = some (.int .i64) := by kernel_rfl
theorem undBool : Try.prog.underlying tBool = some .bool := by kernel_rfl
theorem undLbool : Try.prog.underlying tLbool = some (.slice tBool) := by kernel_rfl
theorem undLlink : Try.prog.underlying tLapiLink = some (.slice tApiLink) := by kernel_rfl
theorem fldLink : fieldTys Try.prog tApiLink = some [tInt, tInt, tInt] := by kernel_rfl
theorem link_of {m : Mem} {f : Nat} {cs : List Value} (h : TyC Try.prog m f tApiLink cs) : ∃ l : Lk, cs = encL l := by
  obtain ⟨f, parts, rfl, hlen, hp⟩ := TyC.fields fldLink h
  match parts, hlen with
  | [p0, p1, p2], _ =>
    obtain ⟨a, rfl, _⟩ := TyC.int undInt (hp 0 tInt p0 (by simp [-Bool.exists_bool]) (by simp [-Bool.exists_bool]))
    obtain ⟨b, rfl, _⟩ := TyC.int undInt (hp 1 tInt p1 (by simp [-Bool.exists_bool]) (by simp [-Bool.exists_bool]))
    obtain ⟨c, rfl, _⟩ := TyC.int undInt (hp 2 tInt p2 (by simp [-Bool.exists_bool]) (by simp [-Bool.exists_bool]))
    exact ⟨⟨a, b, c⟩, rfl⟩
theorem links_of {m : Mem} {n : Nat} (hf : ∀ i, n ≤ i → m.get i = none) {f : Nat} {cs : List Value} (h : TyC Try.prog m f tLapiLink cs) : ∃ la L lc, cs = [.slice la (L : List Lk).length lc] ∧ Sl m n la lc (L.flatMap encL) ∧ L.length ≤ 9223372036854775807 := by
  obtain ⟨id, len, cap, nl, es, f, rfl, h1, h2, h3, h4, h5, h6⟩ := TyC.slice undLlink h
  obtain ⟨L, e1, e2⟩ := rows_enc (enc := encL) (es := es) fun x hx => link_of (h6 x hx).2
  rw [e1] at h4
  obtain rfl : len = L.length := by omega
  exact ⟨_, L, cap, rfl, Sl.in_ h4 (lt_of_get hf h4) fun e => by rw [← e1, h5 e]; rfl, by unfold maxLen at h2; omega⟩
theorem bools_of {m : Mem} {n : Nat} (hf : ∀ i, n ≤ i → m.get i = none) {f : Nat} {cs : List Value} (h : TyC Try.prog m f tLbool cs) : ∃ ua U uc, cs = [.slice ua (U : List Bool).length uc] ∧ Sl m n ua uc (U.map Value.bool) ∧ U.length ≤ 9223372036854775807 := by
  obtain ⟨id, len, cap, nl, es, f, rfl, h1, h2, h3, h4, h5, h6⟩ := TyC.slice undLbool h
  obtain ⟨U, e1, e2⟩ := rows_one (f := Value.bool) (es := es) fun x hx => TyC.bool undBool (h6 x hx).2
  rw [e1] at h4
  obtain rfl : len = U.length := by omega
  exact ⟨_, U, cap, rfl, Sl.in_ h4 (lt_of_get hf h4) fun e => by rw [← e1, h5 e]; rfl, by unfold maxLen at h2; omega⟩
end
end Go.Proofs.Ytiomjekkmjinbaa

set_option maxRecDepth 100000
namespace Go.Proofs.Ytiomjekkmjinbaa
open Go Go.Ab Spf
def gb (R : List Bool) (v : Nat) : Bool := (R[v]?).getD false
section
variable {m m' : Mem} {n n' : Nat} {N : Int} {L : List Lk} {U : List Bool} {la ua : Option Addr} {ll lc ul uc : Nat}
end
end Go.Proofs.Ytiomjekkmjinbaa

set_option maxRecDepth 100000
namespace Go.Proofs.Ytiomjekkmjinbaa
open Go Go.Ab Spf
section
variable {m m' : Mem} {n n' : Nat} {N : Int} {L : List Lk} {U : List Bool} {la ua : Option Addr} {ll lc ul uc : Nat}
theorem next_ne {g : G} (hg : g.Ok) {t : Nat} {d : List Int} (hd : IsDist g t d) {v : Nat} (hv : v ≠ t) : nextL g d v ≠ [] ↔ 0 ≤ gd d v := by
  constructor
  · intro h
    obtain ⟨x, r, hx⟩ := List.exists_cons_of_ne_nil h
    obtain ⟨i, w, c, _, s, h1, h2⟩ := next_st.1 (show x ∈ nextL g d v by rw [hx]; simp [-Bool.exists_bool])
    have := s.bnd hg; omega
  · intro h
    rcases hd.back v h with e | ⟨i, x, c, s, h1, h2⟩
    · exact (hv e).elim
    · have : (i : Int) ∈ nextL g d v := next_st.2 ⟨i, x, c, rfl, s.symm hg, h1, by omega⟩
      intro e; rw [e] at this; cases this
theorem next_end {g : G} (hg : g.Ok) {t : Nat} {d : List Int} (hd : IsDist g t d) : nextL g d t = [] := by
  cases h : nextL g d t with
  | nil => rfl
  | cons x r =>
    obtain ⟨i, w, c, _, s, h1, h2⟩ := next_st.1 (show x ∈ nextL g d t by rw [h]; simp [-Bool.exists_bool])
    have := s.bnd hg
    rw [hd.src] at h2; omega
theorem next_len {g : G} (hg : g.Ok) {d : List Int} {v : Nat} : (nextL g d v).length ≤ 128 := by
  have := nextGo_len (d := d) (f := v) g.X 0
  have := hg.many
  unfold nextL; omega
end
end Go.Proofs.Ytiomjekkmjinbaa

set_option maxRecDepth 100000
/- Distances by rounds over the links, plain. -/
namespace Spf
def wt (x : Int) : Nat := if x < 0 then 40000 else x.toNat
def mu (d : List Int) : Nat := (d.map wt).sum
theorem mu_set : ∀ {d : List Int} {v : Nat} {k : Int}, v < d.length → wt k < wt (gd d v) → mu (d.set v k) < mu d
  | [], v, k, h, _ => by simp [-Bool.exists_bool] at h
  | x :: d, 0, k, _, h => by
    have : gd (x :: d) 0 = x := by simp [-Bool.exists_bool, gd]
    rw [this] at h
    simp [-Bool.exists_bool, mu]; omega
  | x :: d, v + 1, k, hv, h => by
    have e : gd (x :: d) (v + 1) = gd d v := by simp [-Bool.exists_bool, gd]
    rw [e] at h
    have := mu_set (d := d) (v := v) (k := k) (by simpa [-Bool.exists_bool] using hv) h
    simp only [mu, List.set_cons_succ, List.map_cons, List.sum_cons] at this ⊢
    omega
theorem cnt_same {d : List Int} {v : Nat} {k : Int} (hv : v < d.length) (h : 0 ≤ gd d v) (hk : 0 ≤ k) : cnt (d.set v k) = cnt d := by
  unfold cnt
  rw [List.countP_set hv]
  have h1 : d[v] = gd d v := gd_get hv
  rw [h1]
  have hp : 0 < List.countP (fun x => decide (0 ≤ x)) d := List.countP_pos_iff.2 ⟨d[v], List.getElem_mem hv, by rw [h1]; simpa [-Bool.exists_bool] using h⟩
  simp [-Bool.exists_bool, h, hk]; omega
structure BI (g : G) (f : Nat) (d : List Int) : Prop where
  len : d.length = g.N
  inb : f < g.N
  lo : ∀ v, -1 ≤ gd d v
  src : gd d f = 0
  back : ∀ v, 0 ≤ gd d v → v = f ∨ ∃ i x c, St g i x v c ∧ 0 ≤ gd d x ∧ gd d x + c ≤ gd d v
  val : ∀ v, 0 ≤ gd d v → gd d v + 1000 ≤ 1000 * cnt d
theorem BI.cap {g : G} (hg : g.Ok) {f : Nat} {d : List Int} (h : BI g f d) (v : Nat) : gd d v ≤ 32000 := by
  by_cases h0 : 0 ≤ gd d v
  · have h1 := h.val v h0
    have h2 := cnt_le d
    have h3 := h.len
    have h4 := hg.big
    omega
  · omega
theorem BI.start {g : G} (hg : g.Ok) {f : Nat} (hf : f < g.N) : BI g f ((List.replicate g.N (-1)).set f 0) := by
  have hl : f < (List.replicate g.N (-1 : Int)).length := by simpa [-Bool.exists_bool] using hf
  have hr : ∀ v, gd (List.replicate g.N (-1)) v = -1 := fun v => by
    unfold gd
    rw [List.getElem?_replicate]
    split <;> rfl
  have hs : ∀ v, gd ((List.replicate g.N (-1)).set f 0) v = if v = f then 0 else -1 := fun v => by rw [gd_set hl, hr]
  have hc : cnt ((List.replicate g.N (-1)).set f 0) = cnt (List.replicate g.N (-1 : Int)) + 1 := cnt_set hl (by rw [hr]; omega) (Int.le_refl _)
  refine ⟨by simp, hf, fun v => by rw [hs]; split <;> omega, by rw [hs, if_pos rfl], fun v hv => ?_, fun v hv => ?_⟩
  · rw [hs] at hv
    split at hv
    · rename_i e; exact .inl e
    · omega
  · rw [hs] at hv ⊢
    rw [hc]
    split at hv
    · rename_i e; rw [if_pos e]; omega
    · omega
/-- A link that tells of a shorter way. -/
theorem BI.relax {g : G} (hg : g.Ok) {f : Nat} {d : List Int} (h : BI g f d) {i x y : Nat} {c : Int} (s : St g i x y c) (hx : 0 ≤ gd d x) (hy : gd d y < 0 ∨ gd d y > gd d x + c) : BI g f (d.set y (gd d x + c)) ∧ mu (d.set y (gd d x + c)) < mu d := by
  have sb := s.bnd hg
  have hyl : y < d.length := by rw [h.len]; exact sb.2.1
  have hset := fun w => gd_set (w := w) (k := gd d x + c) hyl
  have hyf : f ≠ y := by rintro rfl; have := h.src; omega
  have hvx := h.val x hx
  have hcap := h.cap hg x
  refine ⟨⟨by simpa [-Bool.exists_bool] using h.len, h.inb, fun v => ?_, by rw [hset, if_neg hyf]; exact h.src, fun v hv => ?_, fun v hv => ?_⟩, mu_set hyl ?_⟩
  · rw [hset]; split
    · omega
    · exact h.lo v
  · rw [hset] at hv
    have wit : ∀ z, gd (d.set y (gd d x + c)) z ≤ gd d z ∨ gd d z < 0 := fun z => by
      rw [hset]; split
      · rename_i e; subst e; omega
      · omega
    by_cases e : v = y
    · subst e
      exact .inr ⟨i, x, c, s, by rw [hset, if_neg sb.2.2.1]; exact hx, by rw [hset, hset, if_pos rfl, if_neg sb.2.2.1]; omega⟩
    · rw [if_neg e] at hv
      rcases h.back v hv with h1 | ⟨j, z, c', s', h1, h2⟩
      · exact .inl h1
      · refine .inr ⟨j, z, c', s', ?_, ?_⟩
        · rw [hset]; split
          · omega
          · exact h1
        · have := wit z
          rw [hset (w := v), if_neg e]; omega
  · rw [hset] at hv ⊢
    by_cases hyn : gd d y < 0
    · rw [cnt_set hyl hyn (by omega)]
      split
      · omega
      · rename_i e; rw [if_neg e] at hv; have := h.val v hv; omega
    · rw [cnt_same hyl (by omega) (by omega)]
      split
      · have := h.val y (by omega); omega
      · rename_i e; rw [if_neg e] at hv; exact h.val v hv
  · unfold wt
    rw [if_neg (by omega)]
    split
    · omega
    · omega
/-- A link is at rest. -/
def Rest (g : G) (d : List Int) (i : Nat) : Prop := ∀ x y c, St g i x y c → 0 ≤ gd d x → 0 ≤ gd d y ∧ gd d y ≤ gd d x + c
theorem BI.done {g : G} (hg : g.Ok) {f : Nat} {d : List Int} (h : BI g f d) (hr : ∀ i, i < g.X.length → Rest g d i) : IsDist g f d := by
  refine ⟨h.len, h.inb, h.lo, h.src, fun i x y c s => hr i (s.bnd hg).2.2.2.2.2 x y c s, fun v hv => ?_, h.cap hg⟩
  rcases h.back v hv with h1 | ⟨i, x, c, s, h1, h2⟩
  · exact .inl h1
  · have := hr i (s.bnd hg).2.2.2.2.2 x v c s h1
    exact .inr ⟨i, x, c, s, h1, by omega⟩
end Spf

set_option maxRecDepth 100000
namespace Go.Proofs.Ytiomjekkmjinbaa
open Go Go.Ab Spf
section
variable {m m' : Mem} {n n' : Nat} {N : Int} {L : List Lk} {U : List Bool} {la ua : Option Addr} {ll lc ul uc : Nat}
/-- What the reference's Valid returns for links. -/
def rvG (N : Int) : List Lk → Int
  | [] => 0
  | l :: L => if l.a < 0 ∨ l.a ≥ N ∨ l.b < 0 ∨ l.b ≥ N ∨ l.c < 1 ∨ l.c > 1000 then 2 else if l.a = l.b then 12 else rvG N L
def rvP (N : Int) (L : List Lk) : Int := if N < 1 then 2 else if N > 32 then 2 else if (L.length : Int) > 128 then 5 else rvG N L
end
end Go.Proofs.Ytiomjekkmjinbaa

set_option maxRecDepth 100000
namespace Go.Proofs.Ytiomjekkmjinbaa
open Go Go.Ab Spf
/-- A pass over the links. -/
structure PS (g : G) (f : Nat) (M : Nat) (d : List Int) (more : Bool) (i : Nat) : Prop where
  bi : BI g f d
  mu : Spf.mu d ≤ M
  mt : more = true → Spf.mu d < M
  rest : more = false → ∀ j, j < i → Spf.Rest g d j
def rxC (d : List Int) (x y : Nat) (c : Int) : Prop := 0 ≤ gd d x ∧ (gd d y < 0 ∨ gd d y > gd d x + c)
instance (d : List Int) (x y : Nat) (c : Int) : Decidable (rxC d x y c) := by unfold rxC; exact inferInstance
def rxD (d : List Int) (x y : Nat) (c : Int) : List Int := if rxC d x y c then d.set y (gd d x + c) else d
def rxM (more : Bool) (d : List Int) (x y : Nat) (c : Int) : Bool := if rxC d x y c then true else more
theorem PS.half {g : G} (hg : g.Ok) {f M : Nat} {d : List Int} {more : Bool} {i j x y : Nat} {c : Int} (h : PS g f M d more i) (s : St g j x y c) : PS g f M (rxD d x y c) (rxM more d x y c) i := by
  unfold rxD rxM
  by_cases hc : rxC d x y c
  · rw [if_pos hc, if_pos hc]
    obtain ⟨h1, h2⟩ := h.bi.relax hg s hc.1 hc.2
    exact ⟨h1, by have := h.mu; omega, fun _ => by have := h.mu; omega, fun e => by cases e⟩
  · rw [if_neg hc, if_neg hc]; exact h
theorem PS.both {g : G} (hg : g.Ok) {f M : Nat} {d : List Int} {more : Bool} {i : Nat} {l : Lk} (h : PS g f M d more i) (hl : g.X[i]? = some (l, true)) :
    PS g f M (rxD (rxD d l.a.toNat l.b.toNat l.c) l.b.toNat l.a.toNat l.c) (rxM (rxM more d l.a.toNat l.b.toNat l.c) (rxD d l.a.toNat l.b.toNat l.c) l.b.toNat l.a.toNat l.c) (i + 1) := by
  have hlk := hg.at hl
  have sAB : St g i l.a.toNat l.b.toNat l.c := ⟨l, hl, by rw [show ((l.a.toNat : Nat) : Int) = l.a by omega]; unfold other; rw [if_pos rfl]; omega, rfl⟩
  have h1 := h.half hg sAB
  have h2 := h1.half hg (sAB.symm hg)
  refine ⟨h2.bi, h2.mu, h2.mt, fun e j hj => ?_⟩
  by_cases hji : j = i
  · subst hji
    -- nothing was changed
    have c2 : ¬ rxC (rxD d l.a.toNat l.b.toNat l.c) l.b.toNat l.a.toNat l.c := fun hc => by unfold rxM at e; rw [if_pos hc] at e; cases e
    have e1 : rxM more d l.a.toNat l.b.toNat l.c = false := by unfold rxM at e ⊢; rw [if_neg c2] at e; exact e
    have c1 : ¬ rxC d l.a.toNat l.b.toNat l.c := fun hc => by unfold rxM at e1; rw [if_pos hc] at e1; cases e1
    have ed : rxD d l.a.toNat l.b.toNat l.c = d := by unfold rxD; rw [if_neg c1]
    rw [ed] at c2 ⊢
    have ed2 : rxD d l.b.toNat l.a.toNat l.c = d := by unfold rxD; rw [if_neg c2]
    rw [ed2]
    intro x y c s hx
    obtain ⟨l', s1, s2, s3⟩ := s
    rw [hl] at s1; cases s1
    subst s3
    unfold rxC at c1 c2
    rcases other_cases (l := l) (n := (x : Int)) with ⟨o1, o2⟩ | ⟨_, o1, o2⟩ | ⟨_, _, o2⟩
    · have ex : l.a.toNat = x := by omega
      have ey : l.b.toNat = y := by omega
      rw [ex, ey] at c1
      omega
    · have ex : l.b.toNat = x := by omega
      have ey : l.a.toNat = y := by omega
      rw [ex, ey] at c2
      omega
    · omega
  · exact h2.rest e j (by omega)
section
variable {m m' : Mem} {n n' : Nat} {N : Int} {L : List Lk} {U : List Bool} {la ua : Option Addr} {ll lc ul uc : Nat}
/-- The distances' block. -/
structure DW (m0 : Mem) (n0 : Nat) (m : Mem) (n w : Nat) (d : List Int) : Prop where
  get : m.get w = some (.cells none tInt 1 (d.map vi))
  le : Le m0 n0 m n
  fs : Fs m0 n0 → Fs m n
  lo : n0 ≤ w
  lt : w < n
theorem DW.sl {m0 : Mem} {n0 w : Nat} {d : List Int} (h : DW m0 n0 m n w d) (c : Nat) : Sl m n (some ⟨w, 0, none⟩) c (d.map vi) :=
  .inr ⟨w, 0, none, d.map vi, rfl, h.lt, by simp [-Bool.exists_bool, cellsOf, h.get], fun _ => ⟨by simp [-Bool.exists_bool, liveAt, h.get], fun h => (h rfl).elim, by simp [-Bool.exists_bool, nilAt, h.get]⟩, by simp, by simp only [offOf, List.drop_zero]; exact List.take_of_length_le (Nat.le_refl _)⟩
theorem DW.ext {m0 : Mem} {n0 w : Nat} {d : List Int} (h : DW m0 n0 m n w d) (l : Le m n m' n') (fs : Fs m n → Fs m' n') : DW m0 n0 m' n' w d :=
  ⟨l.get h.lt h.get, h.le.trans l, fun hf => fs (h.fs hf), h.lo, by have := h.lt; have := l.le; omega⟩
theorem DW.put {m0 : Mem} {n0 w : Nat} {d : List Int} (h : DW m0 n0 m n w d) {x : Int} (h0 : 0 ≤ x) (h1 : x < d.length) (y : Int) :
    ∃ m', liveAt m w = true ∧ storeCs m w (offOf 0 none + x.toNat * 1) [vi y] = some m' ∧ DW m0 n0 m' n w (d.set x.toNat y) ∧ ∀ j, j ≠ w → m'.get j = m.get j := by
  have st := store_of (off := x.toNat) (vs := [vi y]) h.get (by simp; omega) (by simp [-Bool.exists_bool, cellOk])
  simp only [List.length_singleton] at st
  rw [map_take_drop_set vi d x.toNat y (by omega)] at st
  refine ⟨_, by simp [-Bool.exists_bool, liveAt, h.get], by simpa [-Bool.exists_bool] using st, ⟨by simp [-Bool.exists_bool, Tr.get_set], ⟨h.le.le, fun j hj => by rw [Tr.get_set, if_neg (by have := h.lo; omega)]; exact h.le.same j hj⟩, fun hf => (h.fs hf).in_ h.lt, h.lo, h.lt⟩, fun j hj => by rw [Tr.get_set, if_neg (fun e => hj e.symm)]⟩

end
end Go.Proofs.Ytiomjekkmjinbaa

set_option maxRecDepth 100000
namespace Go.Proofs.Ytiomjekkmjinbaa
open Go Go.Ab Spf
section
variable {m m' : Mem} {n n' : Nat} {N : Int} {L : List Lk} {U : List Bool} {la ua : Option Addr} {ll lc ul uc : Nat}
end
end Go.Proofs.Ytiomjekkmjinbaa

set_option maxRecDepth 100000
namespace Go.Proofs.Ytiomjekkmjinbaa
open Go Go.Ab Spf
section
variable {m m' : Mem} {n n' : Nat} {N : Int} {L : List Lk} {U : List Bool} {la ua : Option Addr} {ll lc ul uc : Nat}
end
end Go.Proofs.Ytiomjekkmjinbaa

set_option maxRecDepth 100000
namespace Go.Proofs.Ytiomjekkmjinbaa
open Go Go.Ab Spf
section
variable {m m' : Mem} {n n' : Nat} {N : Int} {L : List Lk} {U : List Bool} {la ua : Option Addr} {ll lc ul uc : Nat}
theorem valid_two {f t : Int} : validP N L U.length [f, t] = (validP N L U.length [f] && validP N L U.length [t]) := by
  simp only [validP, List.all_cons, List.all_nil, Bool.and_true]
  cases decide (1 ≤ N) <;> cases decide (N ≤ 32) <;> cases decide (L.length ≤ 128) <;> cases decide (U.length = L.length) <;> cases L.all (okLk N) <;> simp [-Bool.exists_bool]
theorem valid_at {f : Int} (hv : validP N L U.length [f] = true) {j : Nat} (hj : j < N.toNat) : validP N L U.length [(j : Int)] = true := by
  simp only [validP, List.all_cons, List.all_nil, Bool.and_true, Bool.and_eq_true] at hv ⊢
  refine ⟨hv.1, hv.2.1, hv.2.2.1, hv.2.2.2.1, ?_⟩
  simp [-Bool.exists_bool, inN]; omega
end
end Go.Proofs.Ytiomjekkmjinbaa
