/- V12: what parts of the program compute; helper of the claim. -/
import Derived.Test.YtpiiddoccloghaaU12
namespace Go.Proofs.Ytpiiddoccloghaa
open Go Go.Ab

theorem two_up {d : D} (hok : d.ok) {t : Int} (ht : 0 ≤ t ∧ t ≤ 1000000000) : ((d.next t true).next (t + 1) true).mode = 1 := by
  have hok1 := D.next_ok hok t true
  have hw : IntKind.i64.wrap t = t := wrap_id (by omega) (by omega)
  have w0 : IntKind.i64.wrap (1 - 0) = 1 := by decide
  have hh : (d.next t true).heard = true := rfl
  have hl : (d.next t true).last = some t := rfl
  have h1 : ¬ ((1 : Int) = 0) := by decide
  show (if (d.next t true).chg (t + 1) true then IntKind.i64.wrap (1 - (d.next t true).mode) else (d.next t true).mode) = 1
  rcases hok1.mode with h | h
  · have : (d.next t true).chg (t + 1) true = true := by simp [-Bool.exists_bool, D.chg, h, D.rise, hh, hl, hw]
    rw [if_pos this, h]; exact w0
  · have : (d.next t true).chg (t + 1) true = false := by simp [-Bool.exists_bool, D.chg, h, D.fall, h1]
    rw [this, h]; rfl

/-- A watch in the ticks of silence after a link was up. -/
structure FailSt (d : D) (mult T many : Int) (i : Int) : Prop where
  hmult : d.mult = mult
  hmode : d.mode = if i ≤ mult then 1 else 0
  hat : d.heardAt = T
  hlast : d.last = some (T + i - 1)
  hch : d.changes = if i ≤ mult then many else many + 1
  hh : 1 < i → d.heard = false

theorem fail_step {d : D} {mult T many i : Int} (hT : 0 ≤ T ∧ T ≤ 1000000) (hm : 1 ≤ mult ∧ mult ≤ 1000) (hmany : 0 ≤ many ∧ many ≤ 1000000) (hi : 1 ≤ i ∧ i ≤ mult) (h : FailSt d mult T many i) :
    d.err (T + i) = 0 ∧ d.chg (T + i) false = decide (i = mult) ∧ FailSt (d.next (T + i) false) mult T many (i + 1) := by
  obtain ⟨h1, h2, h3, h4, h5, h6⟩ := h
  rw [if_pos hi.2] at h2 h5
  have hw : IntKind.i64.wrap (d.heardAt + d.mult) = T + mult := by rw [h3, h1]; exact wrap_id (by omega) (by omega)
  have w1 : IntKind.i64.wrap (1 - 1) = 0 := by decide
  have wm : IntKind.i64.wrap (many + 1) = many + 1 := wrap_id (by omega) (by omega)
  have e0 : ¬ ((1 : Int) = 0) := by decide
  have hchg : d.chg (T + i) false = decide (i = mult) := by
    simp only [D.chg, h2, if_neg e0, D.fall, hw]
    by_cases hx : i = mult
    · subst hx; simp [-Bool.exists_bool]
    · have : ¬ T + i ≥ T + mult := by omega
      simp only [decide_eq_false this, decide_eq_false hx]; rfl
  refine ⟨?_, hchg, ⟨h1, ?_, h3, ?_, ?_, fun _ => rfl⟩⟩
  · have e1 : ¬ T + i < 0 := by omega
    have e2 : ¬ T + i > 1099511627776 := by omega
    have e3 : ¬ T + i ≤ T + i - 1 := by omega
    simp only [D.err, if_neg e1, if_neg e2, h4, if_neg e3]
  · simp only [D.next, hchg, h2]
    by_cases hx : i = mult
    · have : ¬ i + 1 ≤ mult := by omega
      rw [if_neg this, decide_eq_true hx, if_pos rfl, w1]
    · have : i + 1 ≤ mult := by omega
      simp [-Bool.exists_bool, hx, this]
  · simp only [D.next]; congr 1; omega
  · simp only [D.next, hchg, h5]
    by_cases hx : i = mult
    · have : ¬ i + 1 ≤ mult := by omega
      rw [if_neg this, decide_eq_true hx, if_pos rfl, wm]
    · have : i + 1 ≤ mult := by omega
      simp [-Bool.exists_bool, hx, this]
end Go.Proofs.Ytpiiddoccloghaa
