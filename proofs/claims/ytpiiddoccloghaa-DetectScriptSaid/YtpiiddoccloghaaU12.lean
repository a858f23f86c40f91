/- U12: what parts of the program compute; helper of the claim. -/
import Derived.Test.YtpiiddoccloghaaS12
import Derived.Test.YtpiiddoccloghaaAb39
namespace Go.Proofs.Ytpiiddoccloghaa
open Go Go.Ab

theorem changes_c {m : Mem} {n w s : Nat} {d : D} {Q : Value → Mem → Nat → Prop} (h : Wat m w s d) (hq : Q (.int .i64 d.changes) m n) : Wc Try.prog 14 [pp w] m n Q := by
  refine Wc_of mixed (cfg := d12xcfg) (fuel := 400) ?_
  rw [d12x14]
  obtain ⟨hw, p, hs, _⟩ := h
  simp [-Bool.exists_bool, rd, isC, cellsOf, hw, hs, hq]

theorem same_loop {xs ys : List Bool} {a b : Option Addr} {ac bc : Nat} {m : Mem} {Q : Value → Mem → Nat → Prop} (ha : View m 4 a ac (xs.map .bool)) (hb : View m 4 b bc (ys.map .bool)) (hl : xs.length = ys.length) (hx : xs.length ≤ 1000)
    (hq : ∀ n', Q (.bool (xs == ys)) m n') :
    ∀ j i n, i + j = xs.length → xs.take i = ys.take i → W Try.prog { fn := 20, nt := 26, slots := [(0, .slice a xs.length ac), (1, .slice b ys.length bc), (5, .int .i64 i)], todo := pt Try.prog 20 [1, 1, 0, 1, 0, 0] } m n Q := by
  intro j
  induction j with
  | zero =>
    intro i n hi ht
    refine W_of mixed (cfg := d12xcfg) (fuel := 400) ?_
    rw [d12x20k0]
    have h0 : ¬ ((i : Int) < xs.length) := by omega
    simp only [decide_eq_false h0, cond_false]
    have := hq n
    rw [List.take_of_length_le (by omega), List.take_of_length_le (by omega)] at ht
    simpa [-Bool.exists_bool, ht] using this
  | succ j ih =>
    intro i n hi ht
    refine W_of mixed (cfg := d12xcfg) (fuel := 400) ?_
    rw [d12x20k0]
    have h0 : ((i : Int) < xs.length) := by omega
    have h1 : i < xs.length := by omega
    have h2 : i < ys.length := by omega
    have hwi : IntKind.i64.wrap ((i : Int) + 1) = (i : Int) + 1 := wrap_id (by omega) (by omega)
    have hja : (xs.map Value.bool)[i]? = some (.bool xs[i]) := by simp [-Bool.exists_bool]
    have hjb : (ys.map Value.bool)[i]? = some (.bool ys[i]) := by simp [-Bool.exists_bool]
    obtain ⟨p, o, s, rfl, a1, a2, a3⟩ := ha.at hja
    obtain ⟨p', o', s', rfl, b1, b2, b3⟩ := hb.at hjb
    simp only [decide_eq_true h0, cond_true]
    have := fun ht' => ih (i + 1) (n + 9) (by omega) ht'
    have hcast : ((i + 1 : Nat) : Int) = (i : Int) + 1 := by omega
    rw [hcast] at this
    simp [-Bool.exists_bool, a1, a3, b1, b3, h1, h2, hwi]
    refine ⟨fun hh => a2 hh, fun hh => b2 hh, ?_⟩
    by_cases he : xs[i] = ys[i]
    · have := this (by rw [List.take_add_one, List.take_add_one, ht]; simp [-Bool.exists_bool, h1, h2, he])
      simpa [-Bool.exists_bool, he] using this
    · have hne : (xs == ys) = false := by
        rw [beq_eq_false_iff_ne]
        intro e; subst e; exact he rfl
      have := hq (n + 9)
      rw [hne] at this
      simpa [-Bool.exists_bool, he] using this
theorem same_c {xs ys : List Bool} {a b : Option Addr} {ac bc : Nat} {m : Mem} {n : Nat} {Q : Value → Mem → Nat → Prop} (ha : View m 4 a ac (xs.map .bool)) (hb : View m 4 b bc (ys.map .bool)) (hl : xs.length = ys.length) (hx : xs.length ≤ 1000)
    (hq : ∀ n', Q (.bool (xs == ys)) m n') : Wc Try.prog 20 [.slice a xs.length ac, .slice b ys.length bc] m n Q := by
  refine Wc_of mixed (cfg := d12xcfg) (fuel := 400) ?_
  rw [d12x20]
  have e : (((xs.length : Nat) : Int) != (ys.length : Nat)) = false := by rw [hl]; simp [-Bool.exists_bool]
  simp only [e, cond_false]
  exact same_loop ha hb hl hx hq xs.length 0 n (by omega) rfl

theorem own_c {bs : List Bool} {ha : Option Addr} {hc : Nat} {m : Mem} {n : Nat} {Q : Value → Mem → Nat → Prop} (hs : sliceCells m 1 bs.length (.slice ha bs.length hc) = some (bs.map .bool)) (hb : ∀ b o s, ha = some ⟨b, o, s⟩ → b < n) (hl : bs.length ≤ 1000)
    (hq : ∀ m' n' a c, Fr m n m' n' (fun _ => False) → (∀ b o s, a = some ⟨b, o, s⟩ → n ≤ b ∧ b < n') → (Made m' 4 1 a bs.length c (bs.map .bool) ∨ OwnA m' 4 1 a bs.length c (bs.map .bool)) → Q (.slice a bs.length c) m' n') :
    Wc Try.prog 18 [.slice ha bs.length hc] m n Q := by
  refine Wc_of mixed (cfg := d12xcfg) (fuel := 400) ?_
  rw [d12x18]
  have hmade : Made (m.set n (.cells none 4 1 [])) 4 1 (some ⟨n, 0, none⟩) 0 0 [] := ⟨n, rfl, rfl, rfl, by simp [-Bool.exists_bool, Tr.get_set]⟩
  have hs' : sliceCells (m.set n (.cells none 4 1 [])) 1 bs.length (.slice ha bs.length hc) = some (bs.map .bool) := by
    rw [← hs]
    cases ha with
    | none => rfl
    | some x =>
      obtain ⟨b, o, s⟩ := x
      have : ¬ n = b := by have := hb b o s rfl; omega
      simp [-Bool.exists_bool, sliceCells, cellsOf, Tr.get_set, this]
  cases bs with
  | nil =>
    refine ⟨_, _, _, _, _, append_nothing bools hmade hs', hq _ _ _ _ ⟨by omega, fun i hi _ => ?_⟩ (fun b o s e => by cases e; omega) (.inl hmade)⟩
    have : ¬ n = i := by omega
    simp [-Bool.exists_bool, Tr.get_set, this]
  | cons b bs =>
    obtain ⟨happ, hown⟩ := append_made (n := n + 1) bools hmade hs' (by simp [-Bool.exists_bool]) (by simp [-Bool.exists_bool, cellOk]) (by simp [-Bool.exists_bool]) (by omega)
    simp only [Nat.zero_add, List.nil_append] at happ hown
    refine ⟨_, _, _, _, _, happ, hq _ _ _ _ ⟨by omega, fun i hi _ => ?_⟩ (fun b o s e => by cases e; omega) (.inr hown)⟩
    have e1 : ¬ n = i := by omega
    have e2 : ¬ n + 1 = i := by omega
    simp [-Bool.exists_bool, Tr.get_set, e1, e2]
end Go.Proofs.Ytpiiddoccloghaa
