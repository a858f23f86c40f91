/- Proved: 'LsdbKnown' returns true, whatever the schedule and the other choices of the model; nothing that was there turns. It has no argument and no condition. -/
import Derived.Test.YtjjgdapagphleaaRows
import Derived.WalkKit
import Derived.ProofKit
import Derived.OpenShut
import Derived.Test.YtjjgdapagphleaaAb27
namespace Go.Proofs.Ytjjgdapagphleaa.lsdbKnown
open Go.Ab Go.ChangeShapes Go.WideShapes Go.ChangeAt Go.RowKit

theorem own : ownKnob Try.prog.godebug = none := by kernel_rfl

/-- The program draws its orders freely. -/
theorem mixed : Try.prog.follows .mixedOrders = true := by kernel_rfl
/-- The slots that each function needs later than in the region that writes them (a hint alone). -/
def keeps : List (List Nat) := [[],
 [],
 [],
 [0, 1, 2, 4, 5, 6, 7, 8, 18],
 [0, 1, 2, 3, 4, 5, 6, 7, 8, 10, 12, 14, 16, 18, 20, 21, 37, 125],
 [0, 1, 4, 5, 6, 7, 8, 9, 10, 11, 12, 21, 36, 40, 57, 76],
 [0, 1, 2, 3, 8, 9, 10, 11, 12, 13, 14, 15, 16, 17, 18, 19, 20, 21, 22, 23, 24, 25, 49, 52, 58, 75, 95, 108, 112, 115, 168, 169, 170, 182, 192, 204, 208, 228, 247],
 [0, 1, 2, 3, 8, 9, 10, 11, 12, 13, 14, 15, 16, 17, 18, 19, 20, 21, 22, 23, 24, 25, 33, 56, 64, 74, 90, 114, 115, 150, 154, 176, 184],
 [0, 1, 2, 3, 4, 5, 6, 7, 8, 9, 10, 11, 12, 15, 20, 89, 98],
 [0, 1, 2],
 [0, 2],
 [0, 1, 3, 4, 23],
 [0, 1, 3, 4, 23],
 [0, 1, 2, 3, 4],
 [0, 1, 2, 3, 4, 5, 11],
 [0, 1, 2, 3, 4],
 [0, 1, 4, 5, 20],
 [0, 2, 3, 5, 8, 17, 18, 19, 20],
 [0, 1, 2, 3, 6, 8, 9, 10, 11],
 [0, 1, 2, 6],
 [0, 1, 2, 4, 6, 7, 8],
 [0, 1, 4, 5, 10, 14, 26],
 [0, 1, 3, 4, 5, 6],
 [0, 1, 4, 5, 9, 17],
 [0, 1, 4, 5, 6, 7, 15, 19, 20, 21, 22],
 [0, 1, 4, 5, 10, 14, 25],
 [0, 1, 3, 4, 5, 6, 7, 8, 9, 10, 13, 24, 51, 57, 77, 86, 95, 101],
 [0, 2, 3, 7, 16],
 [0, 1, 4, 9],
 [0, 2, 3, 7, 15],
 [0, 1, 2, 6, 7, 8, 9, 12, 23, 27, 44],
 [0, 1, 2, 3, 8, 9, 10, 11, 13, 35],
 [0, 1, 4, 5, 6, 7, 10],
 [0, 1, 2, 6, 7, 8, 9, 17, 50],
 [0, 1, 4, 5, 10, 14, 25],
 [0, 1, 4, 5, 20],
 [0, 1, 4, 5, 6, 7, 8, 9, 12, 17, 44, 54],
 [0, 1, 4, 5, 6, 7, 8, 21, 26, 39],
 [0, 2, 3, 7, 17],
 [0, 2, 3, 4, 5, 8, 24, 26],
 [0, 2, 3, 4, 24],
 [0, 1, 3, 4, 5, 6, 7, 8, 9, 17, 37, 54, 62, 70, 82],
 [0, 1, 2, 6, 7, 8, 9, 10, 11, 12, 13, 31, 39, 62],
 [0, 2, 3, 4, 5, 6, 7, 8, 12, 19],
 [0, 2, 3, 7, 21, 35],
 [0, 2, 3, 5, 6, 7, 8, 9, 14],
 [0, 1, 4, 5, 6, 11, 12, 13, 16, 19],
 [0, 1, 4, 5, 6, 7, 8, 9, 10, 11, 12, 19, 28, 35],
 [0, 1, 4, 5, 15, 26, 35, 36, 42],
 [0, 2],
 [0, 2, 3],
 [0, 1, 2],
 [0, 1, 2],
 [0, 1, 2, 6, 7, 8, 10],
 [0, 1, 2, 3],
 [0, 1, 2],
 [0, 1, 4, 5, 10, 12, 13, 14, 24],
 [0, 1, 2],
 [0, 2, 3, 4, 10, 21],
 [0, 1, 4, 5, 6, 9, 13],
 [0, 1, 4, 5, 26],
 [0, 2],
 [0, 2],
 [0, 2],
 [0, 1, 3, 5, 7, 13],
 [0, 2, 4],
 [0, 1, 4, 5, 6, 7, 8, 9, 15, 27],
 [0, 1, 2, 6, 7, 8, 9, 23, 32],
 [0, 1, 2, 4, 5, 6, 7],
 [0, 1, 2, 3, 8, 9, 10, 11, 12, 13, 14, 15, 16, 17, 18, 23, 29, 35, 50, 68, 72, 87, 113],
 [0, 2],
 [0, 1, 4],
 [0, 2],
 [0, 1, 2, 6, 7, 12, 30],
 [0, 1, 2, 6, 7, 8, 9, 10, 19, 30],
 [0, 1, 2, 6, 7, 8, 9, 10, 15, 33, 43],
 [0, 1, 2, 6, 7, 8, 9, 10, 11, 12, 32, 34, 49, 51, 54],
 [0, 1, 2, 6, 7, 13],
 [0, 1, 2, 6, 7, 8, 9, 10, 14, 32, 37, 41, 61, 65, 78, 98, 103, 116],
 [0, 1, 2, 3, 8, 9, 10, 43, 59, 64],
 [0, 1, 2, 3, 8, 9, 10, 11, 43, 60, 65, 112, 129, 134],
 [0, 2, 4, 8],
 [0, 2, 4, 8, 14],
 [0, 1, 2, 3, 8, 9, 16, 36, 52],
 [0, 2],
 [0, 2],
 [0, 1, 2, 6],
 [0, 1, 2, 3, 4, 10],
 [0, 1, 2, 3, 8, 9, 18],
 [],
 [],
 [],
 [],
 [],
 [],
 [],
 [],
 [],
 [],
 [],
 [],
 [],
 [],
 [],
 [],
 []]
set_option maxRecDepth 1000000 in
/-- The evaluator brings the call to its end, and it answers true. -/
theorem run : allTrue (callK Try.prog (fun f => keeps[f]?) 1000000000 4 [] .leaf 0) = true := by kernel_rfl
theorem walk (w : World) : Calls Try.prog 4 #[] w fun e w' => e = .returned (.bool true) ∧ Below w.heap.size w w' :=
  closedK (draw_ok mixed) run w

/-! ### THE ROW's STEP: WRITTEN OUT: LEAVE IT -/
set_option maxRecDepth 100000 in
theorem lifted (os : Os) (started : os.Started) (H : Type) (enc : TypeId × Value → H) :
    ReturnsInHanded {} Try.checked os 4 .any (Rows.lsdbKnownSpec.pre6 enc Try.prog Try.f4 Rows.lsdbKnownRow.domain false) (Rows.lsdbKnownSpec.post enc Try.prog Try.f4 false true false false) := by
  refine returnsInHanded_of_change (C := Try.checked) own started (by kernel_rfl) Try.func4
    (ChangeSpec.witness6 (enc := enc) (C := Try.checked) false ⟨#[], #[], []⟩ 8 (by kernel_rfl) (by kernel_rfl) (by kernel_rfl) (by kernel_rfl)) ?_
  intro W base args ds gs before hval0 hW hcnd _
  have hval : ∀ (j : Nat) t v, Try.f4.params[j]? = some t → args[j]? = some v → Value.okWide Try.prog W .any base t v := hval0
  have hW' := hW
  obtain ⟨p, q, hA0, hV, rfl, hfz, hnd⟩ := hW
  have hA : DataW.TrodAll enc Try.prog W 0 (fun _ => true) true Try.f4.params.toList args.toList ds p := hA0
  rw [Try.params4] at hA hval
  obtain ⟨rfl, rfl, rfl⟩ := trodAll_none hA
  obtain ⟨rfl, rfl⟩ := trodVars_none hV
  clear hA0 hval0
  simp only [List.append_nil] at hW'
  refine (walk W).mono fun e W' ⟨he, hg⟩ => ?_
  subst he
  exact ⟨_, rfl, post_of_below (pa := []) (pv := []) hW' (fun _ _ _ => (trodAll_cons_mk (shut_bool Try.underlying4 _) trodAll_mk0)) (fun sp _ => rfl) (fun _ _ => rfl) rfl hg⟩

theorem over : Rows.lsdbKnownRow.holds Try.pinned (OpenSpec.ofChange Rows.lsdbKnownSpec) :=
  OpenClaim.holds_of_wide 4 Try.f4 rfl rfl rfl rfl rfl rfl rfl ⟨rfl, rfl, rfl, rfl, rfl⟩ rfl rfl rfl rfl rfl (by kernel_rfl) Try.func4 (by kernel_rfl)
    (of_decide_eq_true (by kernel_rfl)) (by unfold Func.isWrapper; first | (rw [if_pos (by decide +kernel)]; kernel_rfl) | (rw [if_neg (by decide +kernel)]; exact ⟨rfl, rfl⟩))
    (fun os started H enc _ => lifted os started H enc)

/-- ████ THE STATEMENT ████ -/
theorem proved : Rows.LsdbKnownSaid :=
  over
#print axioms proved
end Go.Proofs.Ytjjgdapagphleaa.lsdbKnown
