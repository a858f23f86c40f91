/- Proved: 'FibReach' returns true for every argument, whatever the schedule and the other choices of the model; each argument reads behind the call as it read before. No condition. -/
import Derived.Test.YtiomjekkmjinbaaRows
import Derived.WalkKit
import Derived.ProofKit
import Derived.OpenShut
import Derived.Test.YtiomjekkmjinbaaAb38
import Derived.Test.YtiomjekkmjinbaaWFibReach
namespace Go.Proofs.Ytiomjekkmjinbaa.fibReach
open Go.Ab Go.ChangeShapes Go.WideShapes Go.ChangeAt Go.RowKit

theorem own : ownKnob Try.prog.godebug = none := by kernel_rfl
theorem plain : plainB Try.prog [63, 3, 22, 27, 23, 4, 45] = true := by kernel_rfl
theorem kids : Kids Try.prog (· < Try.prog.types.size) := kids_rows (by kernel_rfl) (by kernel_rfl)
theorem full : ∀ t e, t < Try.prog.types.size → Try.prog.underlying t = some (.slice e) → 0 < Try.prog.cellsOf e := slices_full_of _ (by kernel_rfl)
theorem tys : Try.prog.types.size = 181 := by kernel_rfl

set_option maxRecDepth 100000 in
theorem lifted (os : Os) (started : os.Started) (H : Type) (enc : TypeId × Value → H) :
    ReturnsInHanded {} Try.checked os 6 .any (Rows.fibReachSpec.pre6 enc Try.prog Try.f6 Rows.fibReachRow.domain false) (Rows.fibReachSpec.post enc Try.prog Try.f6 false true false false) := by
  refine returnsInHanded_of_change (C := Try.checked) own started (by kernel_rfl) Try.func6
    (ChangeSpec.witness6 (enc := enc) (C := Try.checked) false ⟨#[], #[.agg #[.int .i64 0, .slice none 0 0, .slice none 0 0], .int .i64 0, .int .u32 0], []⟩ 8 (by kernel_rfl) (by kernel_rfl) (by kernel_rfl) (by kernel_rfl)) ?_
  intro W base args ds gs before hval0 hW hcnd _
  have hval : ∀ (j : Nat) t v, Try.f6.params[j]? = some t → args[j]? = some v → Value.okWide Try.prog W .any base t v := hval0
  have hW' := hW
  obtain ⟨p, q, hA0, hV, rfl, hfz, hnd⟩ := hW
  have hA : DataW.TrodAll enc Try.prog W 0 (fun _ => true) true Try.f6.params.toList args.toList ds p := hA0
  rw [Try.params6] at hA hval
  obtain ⟨rfl, rfl⟩ := trodVars_none hV
  have hlen := (trodAll_length hA).2
  have hdata : (Rows.fibReachSpec.fn H (ds ++ [])).args = ds ∧ (Rows.fibReachSpec.fn H (ds ++ [])).results = [.lit (.bool true)] ∧ (Rows.fibReachSpec.fn H (ds ++ [])).vars = [] := by
    match ds, hlen with
    | [d0, d1, d2], _ => exact ⟨rfl, rfl, rfl⟩
  simp only [List.append_nil] at hW'
  have hL : ∀ t ∈ ([63, 3, 45] : List TypeId), t ∈ ([63, 3, 22, 27, 23, 4, 45] : List TypeId) := by decide
  have hT : ∀ t ∈ ([63, 3, 45] : List TypeId), t < Try.prog.types.size := by rw [tys]; decide
  refine (law_calls plain (base := base) hL hA (fun j t v hj hv => hval j t v (by simpa using hj) (by simpa using hv)) fibReach_main).mono fun e W' ⟨he, hg⟩ => ?_
  subst he
  refine ⟨_, rfl, post_of_below (pa := p) (pv := []) (gs := []) (by simpa using hW') (fun _ _ _ => ?_) (fun sp hsp => ?_) (fun _ _ => ?_) (by simp) hg⟩
  · rw [hdata.2.1]; exact trodAll_cons_mk (shut_bool Try.underlying4 _) trodAll_mk0
  · rw [hdata.1]; exact law_args plain kids full hL hT hA hg hsp
  · rw [hdata.2.2]; exact rfl

theorem over : Rows.fibReachRow.holds Try.pinned (OpenSpec.ofChange Rows.fibReachSpec) :=
  OpenClaim.holds_of_wide 6 Try.f6 rfl rfl rfl rfl rfl rfl rfl ⟨rfl, rfl, rfl, rfl, rfl⟩ rfl rfl rfl rfl rfl (by kernel_rfl) Try.func6 (by kernel_rfl)
    (of_decide_eq_true (by kernel_rfl)) (by unfold Func.isWrapper; first | (rw [if_pos (by decide +kernel)]; kernel_rfl) | (rw [if_neg (by decide +kernel)]; exact ⟨rfl, rfl⟩))
    (fun os started H enc _ => lifted os started H enc)

theorem proved : Rows.FibReachSaid :=
  over
#print axioms proved
end Go.Proofs.Ytiomjekkmjinbaa.fibReach
