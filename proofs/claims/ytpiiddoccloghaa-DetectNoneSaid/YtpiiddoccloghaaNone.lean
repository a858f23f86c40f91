/- DetectNone: the call, whatever the time. -/
import Derived.Test.YtpiiddoccloghaaProg
import Derived.KernelRfl
import Derived.Test.YtpiiddoccloghaaAb38
namespace Go.Proofs.Ytpiiddoccloghaa
open Go Go.Ab
theorem mixedNone : Try.prog.follows .mixedOrders = true := by kernel_rfl
theorem und3 : Try.prog.underlying 3 = some (.int .i64) := by kernel_rfl
theorem und4 : Try.prog.underlying 4 = some .bool := by kernel_rfl
set_option maxRecDepth 1000000 in
theorem none_run (now : Int) (heard : Bool) : allTrue (callK Try.prog (fun _ => none) 100000000 8 [.int .i64 now, .bool heard] .leaf 0) = true := by kernel_rfl
namespace detectNone
theorem detectNone_main (m : Mem) (n : Nat) (ars : List Value) (hl : ars.length = ([3, 4] : List TypeId).length) (ht : ∀ (j : Nat) t a, ([3, 4] : List TypeId)[j]? = some t → ars[j]? = some a → TyV Try.prog m t a)
    (_ : ∀ i o, m.get i = some o → own o = false) (_ : ∀ i, n ≤ i → m.get i = none) : Wc Try.prog 8 ars m n fun v _ _ => v = .bool true := by
  match ars, hl with
  | [a, b], _ =>
    obtain ⟨x, rfl, _⟩ := TyV.int und3 (ht 0 3 a rfl rfl)
    obtain ⟨y, rfl⟩ := TyV.bool und4 (ht 1 4 b rfl rfl)
    exact Wc.knownOn mixedNone rfl (none_run x y) rfl
end detectNone
end Go.Proofs.Ytpiiddoccloghaa
