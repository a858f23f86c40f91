/- SpreadNone: the call, whatever the numbers. -/
import Derived.Test.YtblijemhmpfihaaProg
import Derived.KernelRfl
import Derived.Test.YtblijemhmpfihaaAb38
namespace Go.Proofs.Ytblijemhmpfihaa
open Go Go.Ab
theorem mixedNone : Try.prog.follows .mixedOrders = true := by kernel_rfl
theorem und3 : Try.prog.underlying 3 = some (.int .i64) := by kernel_rfl
theorem und28 : Try.prog.underlying 28 = some (.int .u64) := by kernel_rfl
/-- The slots that each function needs later than in the region that writes them (a hint alone). -/
def keeps : List (List Nat) := [[],  [],  [],  [0, 1, 2, 4, 5, 6, 7, 9, 11, 12, 14, 24],  [0, 1, 4, 5, 6, 7, 8, 9, 10, 11, 12, 13, 14, 18, 24, 31, 38, 44, 55, 71, 75, 84],  [0, 1, 2, 6, 7, 8, 9, 10, 11, 12, 13, 14, 15, 16, 25, 31, 39, 45, 61, 71, 76, 83, 87, 106],  [0, 1, 2, 6, 7, 8, 9, 10, 11, 12, 13, 14, 15, 24, 30, 49, 54, 61, 65, 84, 88, 94, 118],  [0, 1, 2, 6, 7, 8, 9, 10, 11, 12, 13, 14, 15, 16, 19, 40, 42, 48, 52, 60, 64, 97, 101, 114],  [0, 1, 4, 5, 6, 7, 8, 9, 14, 62],  [0, 1, 2, 3, 4, 5, 9, 10, 11],  [0, 2, 3, 9],  [0, 1, 4, 5, 19],  [0, 1, 4, 5, 10, 14, 25],  [0, 2, 5],  [0, 1, 2, 4, 5, 6, 7, 8, 9, 10, 11, 12, 13, 14, 17, 18, 19, 20, 21, 25, 32, 55, 70, 71, 72, 73, 80, 93, 100, 101, 102, 103, 108, 145, 163, 164, 165, 168],  [0, 1, 2, 6],  [0, 2, 5],  [0, 1, 2, 3, 4, 28],  [0, 2, 3, 7, 15],  [0, 1, 4, 5, 6, 7, 20, 24, 37],  [0, 1, 4, 11],  [0, 1, 4, 5, 9, 17],  [0, 1, 4, 9],  [0, 1, 4, 5, 6, 7, 15, 21, 30],  [0, 2],  [0, 2, 3, 4, 5, 11, 16],  [0, 1, 2, 6, 7, 8, 9, 10, 11, 12, 13, 14, 34, 38, 47, 68],  [0, 2, 5],  [0, 2],  [0, 1, 4, 5, 6, 7, 8, 9, 10, 11, 15, 29, 43, 51, 64, 76, 85, 92, 102, 120, 131, 142],  [0, 1, 2],  [0, 1, 2, 3, 4, 5, 11],  [0, 1, 4, 5, 6, 7, 8, 10, 26, 37],  [0, 2],  [0, 2, 4],  [0, 1, 4],  [0, 1, 2],  [0, 1, 4, 5, 7, 11, 12, 13, 14, 19],  [0, 1, 2, 3],  [0, 1, 2],  [0, 1, 4, 5, 6, 13, 28],  [0, 1, 4, 5, 11],  [0, 1, 4, 5, 9, 17],  [0, 2, 3, 4, 17, 32],  [0, 2, 3, 4, 17, 32],  [0, 1, 2, 4, 5, 6, 7, 8, 9],  [0, 1, 2],  [0, 1, 4],  [0, 1, 2, 3, 4, 5, 6],  [0, 1, 4, 5, 6, 7, 8, 9],  [0, 1, 4, 5, 7, 8, 9, 16],  [0, 1, 4, 5, 6, 9, 17, 27],  [0, 1, 2, 5],  [0, 2, 3, 9],  [0, 1, 4, 5, 6, 9, 17, 27],  [0, 1, 2, 5],  [0, 1, 3, 8, 18],  [0, 1, 4, 5, 22, 23, 24, 25, 32, 43],  [0, 1, 4, 5, 6],  [0, 1, 4, 5, 6, 7, 8, 9, 10, 11, 12, 13],  [],  [],  [],  [],  [],  [],  [],  [],  [],  [],  [],  [],  [],  [],  [],  [],  []] 
set_option maxRecDepth 1000000 in
theorem none_run (x y : Int) : allTrue (callK Try.prog (fun f => keeps[f]?) 1000000000 8 [.int .i64 x, .int .u64 y] .leaf 0) = true := by kernel_rfl
namespace spreadNone
theorem spreadNone_main (m : Mem) (n : Nat) (ars : List Value) (hl : ars.length = ([3, 28] : List TypeId).length) (ht : ∀ (j : Nat) t a, ([3, 28] : List TypeId)[j]? = some t → ars[j]? = some a → TyV Try.prog m t a)
    (_ : ∀ i o, m.get i = some o → own o = false) (_ : ∀ i, n ≤ i → m.get i = none) : Wc Try.prog 8 ars m n fun v _ _ => v = .bool true := by
  match ars, hl with
  | [a, b], _ =>
    obtain ⟨x, rfl, _⟩ := TyV.int und3 (ht 0 3 a rfl rfl)
    obtain ⟨y, rfl, _⟩ := TyV.int und28 (ht 1 28 b rfl rfl)
    exact Wc.knownOn mixedNone rfl (none_run x y) rfl
end spreadNone
end Go.Proofs.Ytblijemhmpfihaa
