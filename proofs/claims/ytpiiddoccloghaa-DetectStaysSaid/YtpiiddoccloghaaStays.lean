/- Stays: what parts of the program compute; helper of the claim. -/
import Derived.Test.YtpiiddoccloghaaAB12
import Derived.Test.YtpiiddoccloghaaAb38
namespace Go.Proofs.Ytpiiddoccloghaa
open Go Go.Ab
theorem sund3 : Try.prog.underlying 3 = some (.int .i64) := by kernel_rfl
theorem sundT : Try.prog.underlying 41 = some (.slice 3) := by kernel_rfl
set_option maxRecDepth 1000000 in
theorem detectStays_main (m : Mem) (n : Nat) (ars : List Value) (hl : ars.length = ([3, 41] : List TypeId).length) (ht : ∀ (j : Nat) t a, ([3, 41] : List TypeId)[j]? = some t → ars[j]? = some a → TyV Try.prog m t a)
    (_ : ∀ i o, m.get i = some o → own o = false) (_ : ∀ i, n ≤ i → m.get i = none) : Wc Try.prog 6 ars m n fun v _ _ => v = .bool true := by
  match ars, hl with
  | [a, b], _ =>
    have ha : TyV Try.prog m 3 a := ht 0 3 a (by simp) (by simp)
    have hb : TyV Try.prog m 41 b := ht 1 41 b (by simp) (by simp)
    obtain ⟨x, rfl, _⟩ := TyV.int sund3 ha
    obtain ⟨id, len, cap, nl, es, f, rfl, h1, h2, h3, h4, h5, h6⟩ := TyV.slice sundT hb
    obtain ⟨bs, e1, e2⟩ := rows_one (f := Value.int .i64) fun x hx => by
      obtain ⟨z, hz, _⟩ := TyC.int sund3 (h6 x hx).2
      exact ⟨z, hz⟩
    rw [e1] at h4
    obtain rfl : len = bs.length := by omega
    exact stays_c h4 fun _ _ => rfl
end Go.Proofs.Ytpiiddoccloghaa
