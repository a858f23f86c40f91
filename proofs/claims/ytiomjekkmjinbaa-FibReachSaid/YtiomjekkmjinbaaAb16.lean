/- From W to the kit's Calls. -/
import Derived.Test.YtiomjekkmjinbaaAb15
import Derived.Below
namespace Go.Ab
open Go Go.RowKit

def isTrue : Value × Mem × Nat → Bool
  | (.bool true, _, _) => true
  | _ => false
def allTrue : Res → Bool
  | some l => l.all isTrue
  | none => false

section
variable {P : Program}

/-- A call whose frame W speaks of. -/
theorem W.calls {f : FuncId} {args : List Value} {m : Mem} {n : Nat} {Q : Value → Mem → Nat → Prop} {fr : AFrame} (he : enterA P f args .normal = some fr) (h : W P fr m n Q)
    {H : Nat → Bool} {β : Beta} {w : World} (hm : RelM β ⟨H, n⟩ m w) (hb : blwL ⟨H, n⟩ args = true) :
    Calls P f (renL β args).toArray w fun e w' => ∃ v m' n' β', Q v m' n' ∧ e = .returned (ren β' v) ∧ Ex β ⟨H, n⟩ m w β' ⟨H, n'⟩ m' w' ∧ blw ⟨H, n'⟩ v = true := by
  intro cs
  obtain ⟨hf, hk, hr, _⟩ := enterA_sound (β := β) (n := ⟨H, n⟩) he hb
  obtain ⟨v, m', n', β', w', q, ex, hbv, hs⟩ := h H β w _ hf hm
  obtain ⟨w1, rf', st, d, sm⟩ := hs cs
  have hro : rf'.roundOf = none := by rw [sm.round, hf.round, hr]; rfl
  have hkk : rf'.kind = .normal := by rw [sm.kind, hf.kind, hk]
  rcases d with ⟨_, rfl, h2, h3, fn, h4, h5⟩ | ⟨h1, _⟩
  · exact ⟨.returned (ren β' v), w1, rf', ⟨v, m', n', β', q, rfl, ex, hbv⟩, st, by rw [sm.fn]; rfl, h2, h3, hkk, fn, h4, h5⟩
  · rw [hro] at h1; cases h1

theorem relM_nil (β : Beta) (w : World) : RelM β ⟨fun _ => false, 0⟩ .leaf w :=
  ⟨fun i h => by simp at h, fun i o h => by simp [Tr.get] at h, fun i j oi oj _ h => by simp [Tr.get] at h⟩

/-- Nothing that was there has turned. -/
theorem Ex.below {β β' : Beta} {n n' : Dm} {m m' : Mem} {w w' : World} (h : Ex β n m w β' n' m' w') (ho : ∀ i o, m.get i = some o → own o = false) : Below w.heap.size w w' :=
  ⟨h.os, h.tape, h.output, h.size, fun b hb => h.keep b hb fun i o hi hown => by rw [ho i o hi] at hown; cases hown⟩

/-- A closed call that the evaluator brings to an end. -/
theorem closed_calls (hd : DrawOk P) {keep : FuncId → Option (List Nat)} {fuel : Nat} {f : FuncId} (h : allTrue (evalCall P keep fuel f [] .leaf 0) = true) (w : World) :
    Calls P f #[] w fun e w' => e = .returned (.bool true) ∧ Below w.heap.size w w' := by
  unfold evalCall at h
  split at h
  · rename_i fr he
    cases hr : evalF P keep fuel fr .leaf 0 with
    | none => rw [hr] at h; simp [allTrue] at h
    | some rs =>
      rw [hr] at h
      have hw := evalF_sound hd keep fuel fr .leaf 0 rs hr
      have := W.calls he hw (relM_nil (fun _ => ⟨0, 0, 0, false, none⟩) w) (by rfl)
      refine Calls.mono this fun e w' ⟨v, m', n', β', q, h1, h2, _⟩ => ?_
      simp only [allTrue, List.all_eq_true] at h
      have := h _ q
      have hv : v = .bool true := by
        cases v with
        | bool b => cases b <;> simp [isTrue] at this ⊢
        | _ => simp [isTrue] at this
      subst hv
      exact ⟨h1, h2.below fun i o hg => by simp [Tr.get] at hg⟩
  · simp [allTrue] at h
end
end Go.Ab
