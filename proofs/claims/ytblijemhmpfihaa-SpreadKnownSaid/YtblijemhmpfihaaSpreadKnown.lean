/- Proved: 'SpreadKnown' returns true, whatever the schedule and the other choices of the model; nothing that was there turns. It has no argument and no condition. -/
import Derived.Test.YtblijemhmpfihaaRows
import Derived.WalkKit
import Derived.ProofKit
import Derived.OpenShut
import Derived.Test.YtblijemhmpfihaaAb27
namespace Go.Proofs.Ytblijemhmpfihaa.spreadKnown
open Go.Ab Go.ChangeShapes Go.WideShapes Go.ChangeAt Go.RowKit

theorem own : ownKnob Try.prog.godebug = none := by kernel_rfl

/-- The program draws its orders freely. -/
theorem mixed : Try.prog.follows .mixedOrders = true := by kernel_rfl
/-- The slots that each function needs later than in the region that writes them (a hint alone). -/
def keeps : List (List Nat) := [[],
 [],
 [],
 [0, 1, 2, 4, 5, 6, 7, 9, 11, 12, 14, 24],
 [0, 1, 4, 5, 6, 7, 8, 9, 10, 11, 12, 13, 14, 18, 24, 31, 38, 44, 55, 71, 75, 84],
 [0, 1, 2, 6, 7, 8, 9, 10, 11, 12, 13, 14, 15, 16, 25, 31, 39, 45, 61, 71, 76, 83, 87, 106],
 [0, 1, 2, 6, 7, 8, 9, 10, 11, 12, 13, 14, 15, 24, 30, 49, 54, 61, 65, 84, 88, 94, 118],
 [0, 1, 2, 6, 7, 8, 9, 10, 11, 12, 13, 14, 15, 16, 19, 40, 42, 48, 52, 60, 64, 97, 101, 114],
 [0, 1, 4, 5, 6, 7, 8, 9, 14, 62],
 [0, 1, 2, 3, 4, 5, 9, 10, 11],
 [0, 2, 3, 9],
 [0, 1, 4, 5, 19],
 [0, 1, 4, 5, 10, 14, 25],
 [0, 2, 5],
 [0, 1, 2, 4, 5, 6, 7, 8, 9, 10, 11, 12, 13, 14, 17, 18, 19, 20, 21, 25, 32, 55, 70, 71, 72, 73, 80, 93, 100, 101, 102, 103, 108, 145, 163, 164, 165, 168],
 [0, 1, 2, 6],
 [0, 2, 5],
 [0, 1, 2, 3, 4, 28],
 [0, 2, 3, 7, 15],
 [0, 1, 4, 5, 6, 7, 20, 24, 37],
 [0, 1, 4, 11],
 [0, 1, 4, 5, 9, 17],
 [0, 1, 4, 9],
 [0, 1, 4, 5, 6, 7, 15, 21, 30],
 [0, 2],
 [0, 2, 3, 4, 5, 11, 16],
 [0, 1, 2, 6, 7, 8, 9, 10, 11, 12, 13, 14, 34, 38, 47, 68],
 [0, 2, 5],
 [0, 2],
 [0, 1, 4, 5, 6, 7, 8, 9, 10, 11, 15, 29, 43, 51, 64, 76, 85, 92, 102, 120, 131, 142],
 [0, 1, 2],
 [0, 1, 2, 3, 4, 5, 11],
 [0, 1, 4, 5, 6, 7, 8, 10, 26, 37],
 [0, 2],
 [0, 2, 4],
 [0, 1, 4],
 [0, 1, 2],
 [0, 1, 4, 5, 7, 11, 12, 13, 14, 19],
 [0, 1, 2, 3],
 [0, 1, 2],
 [0, 1, 4, 5, 6, 13, 28],
 [0, 1, 4, 5, 11],
 [0, 1, 4, 5, 9, 17],
 [0, 2, 3, 4, 17, 32],
 [0, 2, 3, 4, 17, 32],
 [0, 1, 2, 4, 5, 6, 7, 8, 9],
 [0, 1, 2],
 [0, 1, 4],
 [0, 1, 2, 3, 4, 5, 6],
 [0, 1, 4, 5, 6, 7, 8, 9],
 [0, 1, 4, 5, 7, 8, 9, 16],
 [0, 1, 4, 5, 6, 9, 17, 27],
 [0, 1, 2, 5],
 [0, 2, 3, 9],
 [0, 1, 4, 5, 6, 9, 17, 27],
 [0, 1, 2, 5],
 [0, 1, 3, 8, 18],
 [0, 1, 4, 5, 22, 23, 24, 25, 32, 43],
 [0, 1, 4, 5, 6],
 [0, 1, 4, 5, 6, 7, 8, 9, 10, 11, 12, 13],
 [],
 [],
 [],
 [],
 [],
 [],
 [],
 [],
 [],
 [],
 [],
 [],
 [],
 [],
 [],
 [],
 []]
set_option maxRecDepth 1000000 in
/-- The evaluator brings the call to its end, and it answers true. -/
theorem run : allTrue (callK Try.prog (fun f => keeps[f]?) 1000000000 3 [] .leaf 0) = true := by kernel_rfl
theorem walk (w : World) : Calls Try.prog 3 #[] w fun e w' => e = .returned (.bool true) ∧ Below w.heap.size w w' :=
  closedK (draw_ok mixed) run w

/-! ### THE ROW's STEP: WRITTEN OUT: LEAVE IT -/
set_option maxRecDepth 100000 in
theorem lifted (os : Os) (started : os.Started) (H : Type) (enc : TypeId × Value → H) :
    ReturnsInHanded {} Try.checked os 3 .any (Rows.spreadKnownSpec.pre6 enc Try.prog Try.f3 Rows.spreadKnownRow.domain false) (Rows.spreadKnownSpec.post enc Try.prog Try.f3 false true false false) := by
  refine returnsInHanded_of_change (C := Try.checked) own started (by kernel_rfl) Try.func3
    (ChangeSpec.witness6 (enc := enc) (C := Try.checked) false ⟨#[], #[], []⟩ 8 (by kernel_rfl) (by kernel_rfl) (by kernel_rfl) (by kernel_rfl)) ?_
  intro W base args ds gs before hval0 hW hcnd _
  have hval : ∀ (j : Nat) t v, Try.f3.params[j]? = some t → args[j]? = some v → Value.okWide Try.prog W .any base t v := hval0
  have hW' := hW
  obtain ⟨p, q, hA0, hV, rfl, hfz, hnd⟩ := hW
  have hA : DataW.TrodAll enc Try.prog W 0 (fun _ => true) true Try.f3.params.toList args.toList ds p := hA0
  rw [Try.params3] at hA hval
  obtain ⟨rfl, rfl, rfl⟩ := trodAll_none hA
  obtain ⟨rfl, rfl⟩ := trodVars_none hV
  clear hA0 hval0
  simp only [List.append_nil] at hW'
  refine (walk W).mono fun e W' ⟨he, hg⟩ => ?_
  subst he
  exact ⟨_, rfl, post_of_below (pa := []) (pv := []) hW' (fun _ _ _ => (trodAll_cons_mk (shut_bool Try.underlying4 _) trodAll_mk0)) (fun sp _ => rfl) (fun _ _ => rfl) rfl hg⟩

theorem over : Rows.spreadKnownRow.holds Try.pinned (OpenSpec.ofChange Rows.spreadKnownSpec) :=
  OpenClaim.holds_of_wide 3 Try.f3 rfl rfl rfl rfl rfl rfl rfl ⟨rfl, rfl, rfl, rfl, rfl⟩ rfl rfl rfl rfl rfl (by kernel_rfl) Try.func3 (by kernel_rfl)
    (of_decide_eq_true (by kernel_rfl)) (by unfold Func.isWrapper; first | (rw [if_pos (by decide +kernel)]; kernel_rfl) | (rw [if_neg (by decide +kernel)]; exact ⟨rfl, rfl⟩))
    (fun os started H enc _ => lifted os started H enc)

/-- ████ THE STATEMENT ████ -/
theorem proved : Rows.SpreadKnownSaid :=
  over
#print axioms proved
end Go.Proofs.Ytblijemhmpfihaa.spreadKnown
