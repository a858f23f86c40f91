/- Regions that draw their order: memories and steps seen through a part of them. -/
import Derived.Test.YtiomjekkmjinbaaAb19
namespace Go.Ab
open Go

section
variable {P : Program} {β : Beta} {n : Dm} {m : Mem} {w : World}

theorem RelM.sub {m' : Mem} (h : RelM β n m' w) (hs : Sub m m') : RelM β n m w :=
  ⟨h.hol, fun i o hi => h.obj i o (hs i o hi), fun i j oi oj hij hi hj => h.dis i j oi oj hij (hs i oi hi) (hs j oj hj)⟩

theorem RelM.le {k : Dm} (h : RelM β n m w) (hk : n.le k) (hol : ∀ i, k.H i = true → i < k.n) : RelM β k m w :=
  ⟨hol, fun i o hi => ⟨hk i (h.obj i o hi).1, (h.obj i o hi).2.agree hk fun _ _ => rfl⟩, h.dis⟩

theorem Ex.ext {β' : Beta} {n' : Dm} {m' m2 : Mem} {w' : World} (h : Ex β n m w β' n' m' w') (hs : Sub m2 m') : Ex β n m w β' n' m2 w' where
  le := h.le
  agree := h.agree
  rel := h.rel.sub hs
  os := h.os
  tape := h.tape
  output := h.output
  size := h.size
  keep := h.keep
  from' i o hi := h.from' i o (hs i o hi)
  ros i o hi := h.ros i o (hs i o hi)

theorem Ex.leR {β' : Beta} {n' k : Dm} {m' : Mem} {w' : World} (h : Ex β n m w β' n' m' w') (hk : n'.le k) (hol : ∀ i, k.H i = true → i < k.n) : Ex β n m w β' k m' w' :=
  { h with le := Dm.le_trans h.le hk, rel := h.rel.le hk hol }

/-- An object whose reading looks at no other. -/
def plainO : AObj → Bool
  | .cells none _ _ _ | .map _ _ | .iter none _ _ _ => true
  | _ => false
theorem plainO_own {o : AObj} (h : plainO o = true) : own o = true := by
  cases o with
  | cells ro e s c => cases ro <;> simp_all [plainO, Ab.own]
  | iter mo s l c => rfl
  | map => rfl
  | _ => simp [plainO] at h

theorem evA_plain {sl : Slots} {o : Oper} {i : Nat} {ob : AObj} {v : Value} (h : evA P sl o i = some (ob, v)) : plainO ob = true := by
  unfold evA at h
  repeat' split at h
  all_goals first
    | (simp only [Option.some.injEq, Prod.mk.injEq] at h; obtain ⟨rfl, _⟩ := h; rfl)
    | cases h

/-- A step through a part of the memory is a step through all of it. -/
theorem Ex.frame {view : Mem} {β' : Beta} {n' : Dm} {m' mem' : Mem} {w' : World} (hm : RelM β n m w) (hs : Sub view m) (h : Ex β n view w β' n' m' w')
    (hme : ∀ k o, mem'.get k = some o → m'.get k = some o ∨ (m.get k = some o ∧ view.get k = none ∧ plainO o = true ∧ m'.get k = none)) : Ex β n m w β' n' mem' w' := by
  have ext : ∀ k o, m.get k = some o → view.get k = none → plainO o = true → ObjR β n w (β k) o ∧ (β k).nil = false ∧ (β k).blk < w.heap.size ∧ w'.heap[(β k).blk]? = w.heap[(β k).blk]? ∧ β' k = β k ∧ n.has k = true := by
    intro k o hk hv hp
    obtain ⟨h1, h2⟩ := hm.obj k o hk
    have hn := h2.own_nil (plainO_own hp)
    have hl := h2.lt hn
    refine ⟨h2, hn, hl, h.keep _ hl fun i oi hi ho => ?_, h.agree k h1, h1⟩
    have : i ≠ k := fun e => by subst e; rw [hv] at hi; cases hi
    exact hm.dis i k oi o this (hs i oi hi) hk ho hn
  have hdiff : ∀ k o, m.get k = some o → view.get k = none → plainO o = true → ∀ j oj, m'.get j = some oj → (own oj = true ∨ (β' j).nil = false) → (β' j).blk ≠ (β' k).blk := by
    intro k o hk hv hp j oj hj hc
    obtain ⟨e1, e2, e3, e4, e5, e6⟩ := ext k o hk hv hp
    rw [e5]
    by_cases ho : own oj = true
    · rcases h.from' j oj hj ho with hf | ⟨i, oi, hi, hoi, he⟩
      · omega
      · rw [← he]
        have : i ≠ k := fun e => by subst e; rw [hv] at hi; cases hi
        exact hm.dis i k oi o this (hs i oi hi) hk hoi e2
    · have ho' : own oj = false := by simpa using ho
      have hv2 := h.ros j oj hj ho'
      have : k ≠ j := fun e => by subst e; rw [hv] at hv2; cases hv2
      have hjm := hs j oj hv2
      have ha : β' j = β j := h.agree j (hm.obj j oj hjm).1
      rcases hc with hc | hc
      · exact absurd hc ho
      · rw [ha] at hc ⊢
        exact (hm.dis k j o oj this hk hjm (plainO_own hp) hc).symm
  refine { le := h.le, agree := h.agree, rel := ⟨h.rel.hol, fun k o hk => ?_, fun i j oi oj hij hi hj ho hn => ?_⟩, os := h.os, tape := h.tape, output := h.output, size := h.size, keep := fun b hb hf => ?_, from' := fun k o hk ho => ?_, ros := fun k o hk ho => ?_ }
  · rcases hme k o hk with hk | ⟨hk, hv, hp, _⟩
    · exact h.rel.obj k o hk
    · obtain ⟨e1, e2, e3, e4, e5, e6⟩ := ext k o hk hv hp
      refine ⟨h.le k e6, ?_⟩
      rw [e5]
      exact (e1.world h.size (fun _ => e4) fun mp since left cur e => by subst e; simp [plainO] at hp).agree h.le h.agree
  · rcases hme i oi hi with hi | ⟨hi, hvi, hpi, _⟩
    · rcases hme j oj hj with hj | ⟨hj, hvj, hpj, _⟩
      · exact h.rel.dis i j oi oj hij hi hj ho hn
      · exact hdiff j oj hj hvj hpj i oi hi (.inl ho)
    · rcases hme j oj hj with hj | ⟨hj, hvj, hpj, _⟩
      · exact (hdiff i oi hi hvi hpi j oj hj (.inr hn)).symm
      · obtain ⟨e1, e2, e3, e4, e5, e6⟩ := ext i oi hi hvi hpi
        obtain ⟨f1, f2, f3, f4, f5, f6⟩ := ext j oj hj hvj hpj
        rw [e5, f5]
        exact hm.dis i j oi oj hij hi hj ho f2
  · exact h.keep b hb fun i o hi ho => hf i o (hs i o hi) ho
  · rcases hme k o hk with hk | ⟨hk, hv, hp, _⟩
    · rcases h.from' k o hk ho with hf | ⟨i, oi, hi, hoi, he⟩
      · exact .inl hf
      · exact .inr ⟨i, oi, hs i oi hi, hoi, he⟩
    · exact .inr ⟨k, o, hk, ho, by rw [(ext k o hk hv hp).2.2.2.2.1]⟩
  · rcases hme k o hk with hk | ⟨hk, hv, hp, _⟩
    · exact hs k o (h.ros k o hk ho)
    · exact hk

theorem RelF.slots {fr : AFrame} {rf : Frame} {sl : Slots} (h : RelF β n fr rf) (hs : ∀ t v, lk sl t = some v → lk fr.slots t = some v) : RelF β n { fr with slots := sl } rf :=
  ⟨h.fn, ⟨h.tmps.1, fun t v hv => h.tmps.2 t v (hs t v hv)⟩, h.todo, h.todoB, h.defers, h.defersB, h.mode, h.kind, h.round, h.roundB⟩
end
end Go.Ab
