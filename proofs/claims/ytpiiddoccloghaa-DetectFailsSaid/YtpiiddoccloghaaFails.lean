/- Fails: what parts of the program compute; helper of the claim. -/
import Derived.Test.YtpiiddoccloghaaY12
import Derived.Test.YtpiiddoccloghaaAb38
namespace Go.Proofs.Ytpiiddoccloghaa
open Go Go.Ab
theorem fund3 : Try.prog.underlying 3 = some (.int .i64) := by kernel_rfl
theorem fund4 : Try.prog.underlying 4 = some .bool := by kernel_rfl
theorem fund27 : Try.prog.underlying 27 = some (.slice 4) := by kernel_rfl
set_option maxRecDepth 1000000 in
theorem detectFails_main (m : Mem) (n : Nat) (ars : List Value) (hl : ars.length = ([3, 27, 3] : List TypeId).length) (ht : ∀ (j : Nat) t a, ([3, 27, 3] : List TypeId)[j]? = some t → ars[j]? = some a → TyV Try.prog m t a)
    (_ : ∀ i o, m.get i = some o → own o = false) (_ : ∀ i, n ≤ i → m.get i = none) : Wc Try.prog 5 ars m n fun v _ _ => v = .bool true := by
  match ars, hl with
  | [a, b, c], _ =>
    have ha : TyV Try.prog m 3 a := ht 0 3 a (by simp) (by simp)
    have hb : TyV Try.prog m 27 b := ht 1 27 b (by simp) (by simp)
    have hc : TyV Try.prog m 3 c := ht 2 3 c (by simp) (by simp)
    obtain ⟨x, rfl, _⟩ := TyV.int fund3 ha
    obtain ⟨y, rfl, _⟩ := TyV.int fund3 hc
    obtain ⟨id, len, cap, nl, es, f, rfl, h1, h2, h3, h4, h5, h6⟩ := TyV.slice fund27 hb
    obtain ⟨bs, e1, e2⟩ := rows_one (f := Value.bool) fun x hx => TyC.bool fund4 (h6 x hx).2
    rw [e1] at h4
    obtain rfl : len = bs.length := by omega
    exact fails_c h4 fun _ _ => rfl
end Go.Proofs.Ytpiiddoccloghaa
