/- Z12: what parts of the program compute; helper of the claim. -/
import Derived.Test.YtpiiddoccloghaaY12
namespace Go.Proofs.Ytpiiddoccloghaa
open Go Go.Ab

theorem has_loop {xs : List Bool} {a : Option Addr} {ac : Nat} {x : Bool} {m : Mem} {n : Nat} {Q : Value → Mem → Nat → Prop} (ha : View m 4 a ac (xs.map .bool)) (hx : xs.length ≤ 1000) (hq : Q (.bool (xs.contains x)) m n) :
    ∀ (l pre : List Bool), xs = pre ++ l → pre.contains x = false → W Try.prog { fn := 22, nt := 18, slots := [(0, .slice a xs.length ac), (1, .bool x), (5, .int .i64 pre.length)], todo := pt Try.prog 22 [1, 0, 1, 0, 0] } m n Q := by
  intro l
  induction l with
  | nil =>
    intro pre hi ht
    refine W_of mixed (cfg := d12xcfg) (fuel := 400) ?_
    rw [d12x22k0]
    rw [List.append_nil] at hi
    subst hi
    have h0 : ¬ ((xs.length : Int) < xs.length) := by omega
    simp only [decide_eq_false h0, cond_false]
    rw [ht] at hq
    exact hq
  | cons b l ih =>
    intro pre hi ht
    refine W_of mixed (cfg := d12xcfg) (fuel := 400) ?_
    rw [d12x22k0]
    have h1 : pre.length < xs.length := by rw [hi]; simp [-Bool.exists_bool]
    have h0 : ((pre.length : Int) < xs.length) := by omega
    have hwi : IntKind.i64.wrap ((pre.length : Int) + 1) = ((pre ++ [b]).length : Int) := by rw [wrap_id (by omega) (by omega)]; simp [-Bool.exists_bool]
    have hja : (xs.map Value.bool)[pre.length]? = some (.bool b) := by rw [hi]; simp [-Bool.exists_bool]
    obtain ⟨p, o, s, rfl, a1, a2, a3⟩ := ha.at hja
    simp only [decide_eq_true h0, cond_true, elimA_some, hwi]
    refine ⟨⟨by omega, h0, a1, a2⟩, b, by simpa [-Bool.exists_bool] using a3, ?_⟩
    by_cases he : b = x
    · have : xs.contains x = true := by rw [hi]; simp [-Bool.exists_bool, he]
      rw [this] at hq
      have e : (b == x) = true := by simp [-Bool.exists_bool, he]
      rw [e]; exact hq
    · have e : (b == x) = false := by simp [-Bool.exists_bool, he]
      rw [e]
      exact ih (pre ++ [b]) (by simp [-Bool.exists_bool, hi]) (by
        rw [← Bool.not_eq_true] at ht ⊢
        simp only [List.contains_iff_mem, List.mem_append, List.mem_singleton] at ht ⊢
        rintro (h | h)
        · exact ht h
        · exact he h.symm)
theorem has_c {xs : List Bool} {a : Option Addr} {ac : Nat} {x : Bool} {m : Mem} {n : Nat} {Q : Value → Mem → Nat → Prop} (ha : View m 4 a ac (xs.map .bool)) (hx : xs.length ≤ 1000) (hq : Q (.bool (xs.contains x)) m n) :
    Wc Try.prog 22 [.slice a xs.length ac, .bool x] m n Q := by
  refine Wc_of mixed (cfg := d12xcfg) (fuel := 400) ?_
  rw [d12x22]
  exact has_loop ha hx hq xs [] rfl rfl
end Go.Proofs.Ytpiiddoccloghaa
