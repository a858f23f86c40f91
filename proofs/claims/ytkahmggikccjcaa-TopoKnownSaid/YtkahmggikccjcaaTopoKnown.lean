/- Proved: 'TopoKnown' returns true, whatever the schedule and the other choices of the model; nothing that was there turns. It has no argument and no condition. -/
import Derived.Test.YtkahmggikccjcaaRows
import Derived.WalkKit
import Derived.ProofKit
import Derived.OpenShut
import Derived.Test.YtkahmggikccjcaaAb27
namespace Go.Proofs.Ytkahmggikccjcaa.topoKnown
open Go.Ab Go.ChangeShapes Go.WideShapes Go.ChangeAt Go.RowKit

theorem own : ownKnob Try.prog.godebug = none := by kernel_rfl

/-- The program draws its orders freely. -/
theorem mixed : Try.prog.follows .mixedOrders = true := by kernel_rfl
/-- The slots that each function needs later than in the region that writes them (a hint alone). -/
def keeps : List (List Nat) := [[],
 [],
 [],
 [0, 1, 4, 5, 6, 7, 8, 9, 10, 13, 44, 46, 51],
 [0, 1, 2, 3, 4, 6, 8, 10, 12, 14, 27],
 [0, 1, 2, 3, 4, 5, 6, 7, 8, 9, 10, 11, 12, 13, 18, 25, 41, 70, 74, 79, 86, 129, 165],
 [0, 1, 2, 4, 5, 6, 7, 8, 9, 10, 11, 13, 14, 16, 27, 37, 92, 96, 112],
 [0, 1, 2, 4, 5, 6, 7, 8, 9, 10, 12, 14, 34, 39, 48, 78, 93],
 [0, 1, 2, 6, 7, 8, 9, 10, 11, 12, 13, 14, 22, 45, 53, 61, 77, 104, 138],
 [0, 2, 3, 4, 5, 10, 53, 86],
 [0, 1, 2],
 [0, 2],
 [0, 1, 2, 3, 4, 5, 6, 7, 8, 9, 10, 18, 25, 26, 27, 36, 37, 38],
 [0, 1, 4, 5, 6, 7, 8, 9, 14, 24, 39],
 [0, 1, 4, 5, 10, 14, 25],
 [0, 1, 4, 5, 6, 7, 8, 9, 10, 11, 36, 45, 49, 61, 68, 82, 121, 127, 136],
 [0, 1, 2, 3],
 [0, 1, 4, 5, 10, 14, 25],
 [0, 1, 2, 4, 5, 6, 7, 8, 9, 11, 12, 13, 35],
 [0, 1, 2, 6, 7, 11],
 [0, 1, 4, 5, 10, 14, 25],
 [0, 2, 3, 4, 7, 18, 19, 20],
 [0, 1, 2, 6, 7, 11],
 [0, 1, 3, 4, 5, 6, 7, 9, 10, 11, 12, 13, 26],
 [0, 1, 2, 6, 7],
 [0, 1, 4, 23],
 [0, 1, 4],
 [0, 1, 4],
 [0, 1, 2, 3, 4, 5, 6, 22, 32, 37, 51],
 [0, 2, 3, 4, 5, 7, 8, 9, 23],
 [0, 1, 4, 5, 9, 17],
 [0, 1, 3, 4, 5, 9, 17],
 [0, 1, 4, 9],
 [0, 2, 3, 4, 5, 6, 12],
 [0, 1, 2, 6, 17],
 [0, 1, 2, 6, 16],
 [0, 2, 3, 6],
 [0, 2],
 [0, 2, 5],
 [0, 2, 5],
 [0, 1, 4, 5, 10, 14, 25],
 [0, 1, 3],
 [0, 2, 4, 5, 6, 7, 8, 9, 15],
 [0, 1, 7],
 [0, 1, 4],
 [0, 1, 2, 4, 5, 6, 7, 8, 11, 34],
 [0, 2, 4],
 [0, 1, 2, 18],
 [0, 1, 4, 5, 6, 7, 14, 21, 57, 62],
 [0, 2, 3, 4, 11],
 [0, 2, 3, 4, 5, 11, 26],
 [0, 1, 4],
 [0, 1, 4, 5, 6, 7, 14, 32, 50],
 [0, 1, 4, 5, 6, 7, 8, 9, 10, 14, 23, 30, 55, 69, 75],
 [0, 1, 2, 6, 7, 8, 9, 16, 52],
 [0, 1, 4],
 [0, 1, 2],
 [0, 2],
 [0, 1, 4],
 [0, 2, 3],
 [0, 1, 2, 3, 4],
 [0, 1, 3, 4, 7, 14, 15, 16, 17, 30],
 [0, 2],
 [0, 2],
 [0, 1, 2, 4, 5, 7, 11, 18, 26, 31, 32, 33, 34, 40],
 [0, 1, 2, 4, 5, 6, 7],
 [0, 1, 2, 3, 8, 9, 10, 11, 12, 13, 14, 15, 16, 17, 18, 23, 29, 35, 50, 68, 72, 87, 113],
 [0, 2],
 [0, 1, 2, 6, 7, 12, 30],
 [0, 1, 2, 6, 7, 8, 9, 10, 19, 30],
 [0, 1, 2, 6, 7, 8, 9, 10, 15, 33, 43],
 [0, 1, 2, 6, 7, 8, 9, 10, 11, 12, 32, 34, 49, 51, 54],
 [0, 1, 2, 6, 7, 13],
 [0, 1, 2, 6, 7, 8, 9, 10, 14, 32, 37, 41, 61, 65, 78, 98, 103, 116],
 [0, 1, 4],
 [0, 1, 2, 3, 8, 9, 10, 43, 59, 64],
 [0, 1, 2, 3, 8, 9, 10, 11, 43, 60, 65, 112, 129, 134],
 [0, 2, 4, 8],
 [0, 2, 4, 8, 14],
 [0, 1, 2, 3, 8, 9, 16, 36, 52],
 [0, 2],
 [0, 2],
 [0, 1, 2, 6],
 [0, 1, 2, 3, 4, 10],
 [0, 2],
 [0, 1, 2, 3, 8, 9, 18],
 [],
 [],
 [],
 [],
 [],
 [],
 [],
 [],
 [],
 [],
 [],
 [],
 [],
 [],
 [],
 [],
 []]
set_option maxRecDepth 1000000 in
/-- The evaluator brings the call to its end, and it answers true. -/
theorem run : allTrue (callK Try.prog (fun f => keeps[f]?) 1000000000 4 [] .leaf 0) = true := by kernel_rfl
theorem walk (w : World) : Calls Try.prog 4 #[] w fun e w' => e = .returned (.bool true) ∧ Below w.heap.size w w' :=
  closedK (draw_ok mixed) run w

/-! ### THE ROW's STEP: WRITTEN OUT: LEAVE IT -/
set_option maxRecDepth 100000 in
theorem lifted (os : Os) (started : os.Started) (H : Type) (enc : TypeId × Value → H) :
    ReturnsInHanded {} Try.checked os 4 .any (Rows.topoKnownSpec.pre6 enc Try.prog Try.f4 Rows.topoKnownRow.domain false) (Rows.topoKnownSpec.post enc Try.prog Try.f4 false true false false) := by
  refine returnsInHanded_of_change (C := Try.checked) own started (by kernel_rfl) Try.func4
    (ChangeSpec.witness6 (enc := enc) (C := Try.checked) false ⟨#[], #[], []⟩ 8 (by kernel_rfl) (by kernel_rfl) (by kernel_rfl) (by kernel_rfl)) ?_
  intro W base args ds gs before hval0 hW hcnd _
  have hval : ∀ (j : Nat) t v, Try.f4.params[j]? = some t → args[j]? = some v → Value.okWide Try.prog W .any base t v := hval0
  have hW' := hW
  obtain ⟨p, q, hA0, hV, rfl, hfz, hnd⟩ := hW
  have hA : DataW.TrodAll enc Try.prog W 0 (fun _ => true) true Try.f4.params.toList args.toList ds p := hA0
  rw [Try.params4] at hA hval
  obtain ⟨rfl, rfl, rfl⟩ := trodAll_none hA
  obtain ⟨rfl, rfl⟩ := trodVars_none hV
  clear hA0 hval0
  simp only [List.append_nil] at hW'
  refine (walk W).mono fun e W' ⟨he, hg⟩ => ?_
  subst he
  exact ⟨_, rfl, post_of_below (pa := []) (pv := []) hW' (fun _ _ _ => (trodAll_cons_mk (shut_bool Try.underlying4 _) trodAll_mk0)) (fun sp _ => rfl) (fun _ _ => rfl) rfl hg⟩

theorem over : Rows.topoKnownRow.holds Try.pinned (OpenSpec.ofChange Rows.topoKnownSpec) :=
  OpenClaim.holds_of_wide 4 Try.f4 rfl rfl rfl rfl rfl rfl rfl ⟨rfl, rfl, rfl, rfl, rfl⟩ rfl rfl rfl rfl rfl (by kernel_rfl) Try.func4 (by kernel_rfl)
    (of_decide_eq_true (by kernel_rfl)) (by unfold Func.isWrapper; first | (rw [if_pos (by decide +kernel)]; kernel_rfl) | (rw [if_neg (by decide +kernel)]; exact ⟨rfl, rfl⟩))
    (fun os started H enc _ => lifted os started H enc)

/-- ████ THE STATEMENT ████ -/
theorem proved : Rows.TopoKnownSaid :=
  over
#print axioms proved
end Go.Proofs.Ytkahmggikccjcaa.topoKnown
